/-
  Texts merged into one, to keep the claim small: Sw1.
-/
import Derived.Test.YtlcjhbemgagchaaMnPdR
import Derived.Test.YtlcjhbemgagchaaMn45
/-
  StreamBack: what frames of commands and of replies tell. No program in sight.
-/
namespace Go.Proofs.Ytlcjhbemgagchaa
set_option linter.unusedVariables false
/-- A body's frame. -/
def fr3 (b : List Nat) : List Nat := [b.length / 65536 % 256, b.length / 256 % 256, b.length % 256] ++ b
theorem fr3_len (b : List Nat) : (fr3 b).length = b.length + 3 := by unfold fr3; rw [List.length_append]; simp; omega
theorem fr3_drop (b : List Nat) : (fr3 b).drop 3 = b := rfl
theorem longS_fr3 (b rest : List Nat) (h : b.length ≤ 65536) : longS (fr3 b ++ rest) = b.length := by
  show 65536 * (b.length / 65536 % 256) + 256 * (b.length / 256 % 256) + b.length % 256 = b.length
  omega
theorem drop_mid (pre a rest : List Nat) : (pre ++ (a ++ rest)).drop pre.length = a ++ rest := List.drop_left
theorem bodyS_fr3 (pre b rest : List Nat) (h : b.length ≤ 65536) : bodyS (pre ++ (fr3 b ++ rest)) pre.length = b := by
  unfold bodyS
  rw [drop_mid, longS_fr3 b rest h, show pre.length + 3 = 3 + pre.length by omega, Nat.add_comm 3, ← List.drop_drop, drop_mid]
  rw [List.drop_append_of_le_length (by rw [fr3_len]; omega), fr3_drop]
  exact List.take_left
/-- Frames of commands tell those commands. -/
theorem Pcs.frames : ∀ (qs : List KC) (pre : List Nat) {line : List Nat} {l : List PC} {u : Nat} {d : Bool}, (∀ q ∈ qs, q.ok = true ∧ q.wf) → line = pre ++ qs.flatMap (fun q => fr3 q.form) → Pcs line pre.length l u d → LikeP l (qs.map fun q => ⟨q, 0⟩) ∧ u = line.length ∧ d = false
  | [], pre, line, l, u, d, _, hl, h => by
    have hl' : line = pre := by simpa using hl
    subst hl'
    cases h with
    | short => exact ⟨.nil, rfl, rfl⟩
    | long => omega
    | half => omega
    | bad => omega
    | one => omega
  | q :: qs, pre, line, l, u, d, hq, hl, h => by
    obtain ⟨h1, h2⟩ := hq q (List.mem_cons_self ..)
    have hs := (KC.short h1 h2).2
    have hl2 : line = pre ++ (fr3 q.form ++ qs.flatMap (fun q => fr3 q.form)) := by rw [hl, List.flatMap_cons]
    have e1 : longS (line.drop pre.length) = q.form.length := by rw [hl2, drop_mid, longS_fr3 _ _ (by omega)]
    have e2 : bodyS line pre.length = q.form := by rw [hl2, bodyS_fr3 _ _ _ (by omega)]
    have e3 : pre.length + 3 + q.form.length ≤ line.length := by rw [hl2, List.length_append, List.length_append, fr3_len]; omega
    have hF : KForm q.form q := ⟨h1, h2, rfl⟩
    cases h with
    | short => omega
    | long => omega
    | half => omega
    | bad k1 k2 k3 k4 k5 =>
      rw [e2] at k3
      exact absurd (k3.ok hF hs).1 k4
    | one k1 k2 k3 k4 =>
      rw [e2] at k3
      rw [e1] at k4
      have hn : pre.length + 3 + q.form.length = (pre ++ fr3 q.form).length := by rw [List.length_append, fr3_len]; omega
      rw [hn] at k4
      obtain ⟨i1, i2, i3⟩ := Pcs.frames qs (pre ++ fr3 q.form) (fun x hx => hq x (List.mem_cons_of_mem _ hx)) (by rw [hl2, List.append_assoc]) k4
      exact ⟨.cons ⟨(k3.ok hF hs).2.1, rfl⟩ i1, i2, i3⟩
/-- A beginning of a frame tells nothing. -/
def Short3 (post : List Nat) : Prop := post.length < 3 ∨ (longS post ≤ 65536 ∧ post.length < 3 + longS post)
theorem Reps.frames : ∀ (qs : List RR) (pre post : List Nat) {line : List Nat} {l : List RR} {u e : Nat}, Short3 post → (∀ q ∈ qs, q.ok = true ∧ q.wf) → line = pre ++ (qs.flatMap (fun q => fr3 q.form) ++ post) → Reps line pre.length l u e → LikeR l qs ∧ u + post.length = line.length ∧ e = 0
  | [], pre, post, line, l, u, e, hp, _, hl, h => by
    have hl' : line = pre ++ post := by simpa using hl
    subst hl'
    rw [List.length_append]
    have e0 : (pre ++ post).drop pre.length = post := List.drop_left
    have key : pre.length + 3 ≤ (pre ++ post).length → longS ((pre ++ post).drop pre.length) ≤ 65536 ∧ (pre ++ post).length < pre.length + 3 + longS ((pre ++ post).drop pre.length) := fun h3 => by
      rw [e0]
      rw [List.length_append] at h3 ⊢
      rcases hp with hp | ⟨hp1, hp2⟩
      · omega
      · exact ⟨hp1, by omega⟩
    cases h with
    | short => exact ⟨.nil, rfl, rfl⟩
    | long k1 k2 => have := key k1; omega
    | half => exact ⟨.nil, rfl, rfl⟩
    | bad k1 k2 => have := key (by omega); omega
    | one k1 k2 => have := key (by omega); omega
  | q :: qs, pre, post, line, l, u, e, hp, hq, hl, h => by
    obtain ⟨h1, h2⟩ := hq q (List.mem_cons_self ..)
    have hs := (RR.len h1 h2).1
    have hl2 : line = pre ++ (fr3 q.form ++ (qs.flatMap (fun q => fr3 q.form) ++ post)) := by rw [hl, List.flatMap_cons, List.append_assoc]
    have e1 : longS (line.drop pre.length) = q.form.length := by rw [hl2, drop_mid, longS_fr3 _ _ (by omega)]
    have e2 : bodyS line pre.length = q.form := by rw [hl2, bodyS_fr3 _ _ _ (by omega)]
    have e3 : pre.length + 3 + q.form.length ≤ line.length := by rw [hl2, List.length_append, List.length_append, fr3_len]; omega
    have hF : RForm q.form q := ⟨h1, h2, rfl⟩
    cases h with
    | short => omega
    | long => omega
    | half => omega
    | bad k1 k2 k3 k4 =>
      rw [e2] at k3
      exact absurd (k3.ok hF (by omega)).1 k4
    | one k1 k2 k3 k4 =>
      rw [e2] at k3
      rw [e1] at k4
      have hn : pre.length + 3 + q.form.length = (pre ++ fr3 q.form).length := by rw [List.length_append, fr3_len]; omega
      rw [hn] at k4
      obtain ⟨i1, i2, i3⟩ := Reps.frames qs (pre ++ fr3 q.form) post hp (fun x hx => hq x (List.mem_cons_of_mem _ hx)) (by rw [hl2, List.append_assoc]) k4
      exact ⟨.cons (k3.ok hF (by omega)).2.1 i1, i2, i3⟩
theorem LikeR.symm {l m : List RR} (h : LikeR l m) : LikeR m l := by
  induction h with
  | nil => exact .nil
  | cons h1 _ ih => exact .cons h1.symm ih
end Go.Proofs.Ytlcjhbemgagchaa
