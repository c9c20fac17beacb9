/-
  Plain laws for All: what so many takes out of several buckets, some of them the same, leave of each.
-/
import Derived.Test.YtgogagapapdlgaaBkRef
namespace Go.Proofs.Ytgogagapapdlgaa
open Go.RowKit
set_option linter.unusedVariables false

/-- A bucket's five numbers. -/
structure St where
  rate : Int
  per : Int
  burst : Int
  level : Int
  rest : Int
def StOk (s : St) : Prop := BkOk s.rate s.per s.burst s.level s.rest
def StAt (t : TypeId) (w : World) (p : Nat) (s : St) : Prop := Bl w p t (bkCells s.rate s.per s.burst s.level s.rest)
def St.at_ (s : St) (l r : Int) : St := ⟨s.rate, s.per, s.burst, l, r⟩
/-- Of a bucket: the program's block, the reference's; none: a nil one. -/
abbrev Ent := Option (Nat × Nat)
def upd (σ : Nat → St) (p : Nat) (s : St) : Nat → St := fun x => if x = p then s else σ x
theorem upd_same (σ : Nat → St) (p : Nat) (s : St) : upd σ p s p = s := if_pos rfl
theorem upd_ne (σ : Nat → St) {p x : Nat} (s : St) (h : x ≠ p) : upd σ p s x = σ x := if_neg h

/-- All buckets of a list lie as σ says (by the program's block). -/
def InvS (t : TypeId) (sel : Nat × Nat → Nat) (js : List Ent) (σ : Nat → St) (w : World) : Prop := ∀ pq, some pq ∈ js → StAt t w (sel pq) (σ pq.1) ∧ StOk (σ pq.1)
/-- One block of the one kind goes with one of the other. -/
def Sep (sel : Nat × Nat → Nat) (js : List Ent) : Prop := ∀ pq pq', some pq ∈ js → some pq' ∈ js → (sel pq = sel pq' ↔ pq.1 = pq'.1)

theorem InvS.step {t : TypeId} {sel : Nat × Nat → Nat} {js : List Ent} {σ : Nat → St} {w w' : World} {pq : Nat × Nat} {s : St} (h : InvS t sel js σ w) (hS : Sep sel js) (hm : some pq ∈ js)
    (hs : StAt t w' (sel pq) s) (ho : StOk s) (hf : Fr (· = sel pq) w w') : InvS t sel js (upd σ pq.1 s) w' := by
  intro x hx
  by_cases he : x.1 = pq.1
  · rw [he, upd_same, (hS x pq hx hm).2 he]
    exact ⟨hs, ho⟩
  · rw [upd_ne _ _ he]
    exact ⟨(h x hx).1.fr hf fun e => he ((hS x pq hx hm).1 e), (h x hx).2⟩
theorem InvS.fr {t : TypeId} {sel : Nat × Nat → Nat} {js : List Ent} {σ : Nat → St} {w w' : World} {S : Nat → Prop} (h : InvS t sel js σ w) (hf : Fr S w w') (hS : ∀ pq, some pq ∈ js → ¬ S (sel pq)) : InvS t sel js σ w' :=
  fun x hx => ⟨(h x hx).1.fr hf (hS x hx), (h x hx).2⟩
theorem InvS.sub {t : TypeId} {sel : Nat × Nat → Nat} {js ks : List Ent} {σ : Nat → St} {w : World} (h : InvS t sel js σ w) (hk : ∀ x ∈ ks, x ∈ js) : InvS t sel ks σ w := fun x hx => h x (hk _ hx)
theorem Sep.sub {sel : Nat × Nat → Nat} {js ks : List Ent} (h : Sep sel js) (hk : ∀ x ∈ ks, x ∈ js) : Sep sel ks := fun x y hx hy => h x y (hk _ hx) (hk _ hy)

/-- How often a bucket stands in a list. -/
def cnt (x : Nat) : List Ent → Nat
  | [] => 0
  | none :: r => cnt x r
  | some p :: r => (if p.1 = x then 1 else 0) + cnt x r
theorem cnt_append (x : Nat) : ∀ a b : List Ent, cnt x (a ++ b) = cnt x a + cnt x b
  | [], b => by simp [cnt]
  | none :: r, b => by simp [cnt, cnt_append x r b]
  | some p :: r, b => by simp [cnt, cnt_append x r b]; omega
/-- So many were taken out of each. -/
def lev (n : Int) (σ : Nat → St) (js : List Ent) : Nat → St := fun x => (σ x).at_ ((σ x).level - n * cnt x js) (σ x).rest
theorem lev_nil (n : Int) (σ : Nat → St) : lev n σ [] = σ := by funext x; simp [lev, cnt, St.at_]
theorem lev_more (n : Int) (σ : Nat → St) (js : List Ent) (p : Nat × Nat) : lev n σ (js ++ [some p]) = upd (lev n σ js) p.1 ((lev n σ js p.1).at_ ((lev n σ js p.1).level - n) (lev n σ js p.1).rest) := by
  funext x
  by_cases hx : x = p.1
  · subst hx; rw [upd_same]
    simp only [lev, St.at_, cnt_append, cnt, if_true, St.mk.injEq, true_and, and_true]
    rw [Nat.add_zero, Int.natCast_add, Int.mul_add, Int.natCast_one, Int.mul_one]; omega
  · rw [upd_ne _ _ hx]
    have : cnt x [some p] = 0 := by simp [cnt]; exact fun e => hx e.symm
    simp only [lev, cnt_append, this, Nat.add_zero]
theorem lev_back (n : Int) (σ : Nat → St) (js : List Ent) (p : Nat × Nat) : lev n σ js = upd (lev n σ (some p :: js)) p.1 ((lev n σ (some p :: js) p.1).at_ ((lev n σ (some p :: js) p.1).level + n) (lev n σ (some p :: js) p.1).rest) := by
  funext x
  by_cases hx : x = p.1
  · subst hx; rw [upd_same]
    simp only [lev, St.at_, cnt, if_true, St.mk.injEq, true_and, and_true]
    rw [Int.natCast_add, Int.mul_add, Int.natCast_one, Int.mul_one]; omega
  · rw [upd_ne _ _ hx]
    have : cnt x (some p :: js) = cnt x js := by simp [cnt]; exact fun e => absurd e.symm hx
    simp only [lev, this]
theorem lev_ok {n : Int} {σ : Nat → St} {js : List Ent} {x : Nat} (h : StOk (σ x)) (hn : 0 ≤ n) (h0 : 0 ≤ (lev n σ js x).level) : StOk (lev n σ js x) := by
  obtain ⟨a, b, c, d, e, f, g, i, j, k, z⟩ := h
  have hm : 0 ≤ n * (cnt x js : Int) := Int.mul_nonneg hn (by omega)
  simp only [lev, St.at_] at h0
  show BkOk (σ x).rate (σ x).per (σ x).burst ((σ x).level - n * cnt x js) (σ x).rest
  exact ⟨a, b, c, d, e, f, h0, by omega, j, k, fun he => z (by omega)⟩

/-- What All answers: the place and the error of the first that refuses. -/
def allR (n : Int) : Nat → (Nat → St) → List Ent → Int × Int
  | _, _, [] => (0, 0)
  | i, _, none :: _ => (i, 1)
  | i, σ, some p :: r => if n < 0 then (i, 2) else if (σ p.1).level < n then (i, 131) else allR n (i + 1) (upd σ p.1 ((σ p.1).at_ ((σ p.1).level - n) (σ p.1).rest)) r
/-- What All leaves. -/
def allS (n : Int) (σ : Nat → St) (js : List Ent) : Nat → St := if (allR n 0 σ js).2 = 0 then lev n σ js else σ
def ptr (sel : Nat × Nat → Nat) (e : Ent) : Value := .pointer (e.map fun p => ⟨sel p, 0, none⟩)
/-- What Take answers. -/
def takeE (n : Int) (σ : Nat → St) : Ent → Int
  | none => 1
  | some p => if n < 0 then 2 else if (σ p.1).level < n then 131 else 0
theorem takeE_some (n : Int) (σ : Nat → St) (p : Nat × Nat) : takeE n σ (some p) = if n < 0 then 2 else if (σ p.1).level < n then 131 else 0 := rfl
def takeS (n : Int) (σ : Nat → St) (pq : Nat × Nat) : Nat → St := upd σ pq.1 ((σ pq.1).at_ ((σ pq.1).level - n) (σ pq.1).rest)
theorem allR_ok {n : Int} {k : Nat} {σ : Nat → St} {pq : Nat × Nat} {r : List Ent} (h : takeE n σ (some pq) = 0) : allR n k σ (some pq :: r) = allR n (k + 1) (takeS n σ pq) r := by
  rw [takeE_some] at h
  by_cases h1 : n < 0
  · rw [if_pos h1] at h; omega
  · rw [if_neg h1] at h
    by_cases h2 : (σ pq.1).level < n
    · rw [if_pos h2] at h; omega
    · rw [allR, if_neg h1, if_neg h2]; rfl
theorem allR_no {n : Int} {k : Nat} {σ : Nat → St} {e : Ent} {r : List Ent} (h : takeE n σ e ≠ 0) : allR n k σ (e :: r) = (↑k, takeE n σ e) := by
  cases e with
  | none => rfl
  | some pq =>
    rw [takeE_some] at h ⊢
    by_cases h1 : n < 0
    · rw [allR, if_pos h1, if_pos h1]
    · rw [if_neg h1] at h ⊢
      by_cases h2 : (σ pq.1).level < n
      · rw [allR, if_neg h1, if_pos h2, if_pos h2]
      · rw [if_neg h2] at h; exact absurd rfl h
theorem take_next {js : List Ent} {k : Nat} {e : Ent} (h : js[k]? = some e) : js.take (k + 1) = js.take k ++ [e] ∧ js.drop k = e :: js.drop (k + 1) := by
  obtain ⟨hk, rfl⟩ := List.getElem?_eq_some_iff.1 h
  exact ⟨(List.take_append_getElem hk).symm, List.drop_eq_getElem_cons hk⟩
theorem drop_next {js : List Ent} {k r : Nat} {e : Ent} (h : js[r]? = some e) (hr : r < k) : (js.take k).drop r = e :: (js.take k).drop (r + 1) := by
  obtain ⟨hk, rfl⟩ := List.getElem?_eq_some_iff.1 h
  rw [List.drop_eq_getElem_cons (by rw [List.length_take]; omega), List.getElem_take]

/-- The blocks of a list's buckets. -/
def Of (sel : Nat × Nat → Nat) (js : List Ent) : Nat → Prop := fun x => ∃ pq, some pq ∈ js ∧ x = sel pq
/-- 'so many takes went well'. -/
def AllAt (t : TypeId) (sel : Nat × Nat → Nat) (n : Int) (σ : Nat → St) (js : List Ent) (tgt : Int × Int) (w0 : World) (i : Value) (w : World) : Prop :=
  ∃ k : Nat, i = .int .i64 (k : Int) ∧ k ≤ js.length ∧ (k = 0 ∨ 0 ≤ n) ∧ Hid (allR n k (lev n σ (js.take k)) (js.drop k) = tgt) ∧ Hid (∀ e, e ∈ js.take k → e ≠ none) ∧ InvS t sel js (lev n σ (js.take k)) w ∧ Fr (Of sel js) w0 w
/-- 'of so many takes so many are given back'. -/
def BackAt (t : TypeId) (sel : Nat × Nat → Nat) (n : Int) (σ : Nat → St) (js : List Ent) (k : Nat) (w0 : World) (i : Value) (w : World) : Prop :=
  ∃ r : Nat, i = .int .i64 (r : Int) ∧ r ≤ k ∧ InvS t sel js (lev n σ ((js.take k).drop r)) w ∧ Fr (Of sel js) w0 w
theorem AllAt.next {t : TypeId} {sel : Nat × Nat → Nat} {n : Int} {σ : Nat → St} {js : List Ent} {tgt : Int × Int} {w0 w' : World} {k : Nat} {pq : Nat × Nat}
    (h1 : js[k]? = some (some pq)) (hn : 0 ≤ n) (hE : takeE n (lev n σ (js.take k)) (some pq) = 0) (hT : allR n k (lev n σ (js.take k)) (js.drop k) = tgt) (hs : ∀ e, e ∈ js.take k → e ≠ none)
    (hI : InvS t sel js (takeS n (lev n σ (js.take k)) pq) w') (hf : Fr (Of sel js) w0 w') : AllAt t sel n σ js tgt w0 (.int .i64 ((k + 1 : Nat) : Int)) w' := by
  obtain ⟨a, b⟩ := take_next h1
  have hl : lev n σ (js.take (k + 1)) = takeS n (lev n σ (js.take k)) pq := by rw [a, lev_more]; rfl
  refine ⟨k + 1, rfl, (List.getElem?_eq_some_iff.1 h1).1, .inr hn, ?_, ?_, by rw [hl]; exact hI, hf⟩
  · show _ = _; rw [hl, ← hT, b, allR_ok hE]
  · show ∀ e, _; rw [a]; intro e he
    rcases List.mem_append.1 he with he | he
    · exact hs e he
    · rw [List.mem_singleton.1 he]; exact fun h => by cases h
theorem back_ok {t : TypeId} {sel : Nat × Nat → Nat} {n : Int} {σ : Nat → St} {js : List Ent} {w : World} {k r : Nat} {pq : Nat × Nat} (hn : 0 ≤ n)
    (h1 : js[r]? = some (some pq)) (hr : r < k) (hI : InvS t sel js (lev n σ ((js.take k).drop r)) w) (hb : ∀ x, some x ∈ js → StOk (σ x.1)) :
    StOk ((lev n σ ((js.take k).drop r) pq.1).at_ ((lev n σ ((js.take k).drop r) pq.1).level + n) (lev n σ ((js.take k).drop r) pq.1).rest) := by
  have hm : some pq ∈ js := List.mem_of_getElem? h1
  have hL := lev_back n σ ((js.take k).drop (r + 1)) pq
  have h0 : 0 ≤ (lev n σ ((js.take k).drop r) pq.1).level := (hI pq hm).2.l1
  rw [← drop_next h1 hr] at hL
  have h3 : (lev n σ ((js.take k).drop r) pq.1).at_ ((lev n σ ((js.take k).drop r) pq.1).level + n) (lev n σ ((js.take k).drop r) pq.1).rest = lev n σ ((js.take k).drop (r + 1)) pq.1 := by
    rw [hL, upd_same]
  rw [h3]
  refine lev_ok (hb pq hm) hn ?_
  rw [← h3]
  show 0 ≤ _ + n; omega
theorem BackAt.next {t : TypeId} {sel : Nat × Nat → Nat} {n : Int} {σ : Nat → St} {js : List Ent} {w0 w w' : World} {k r : Nat} {pq : Nat × Nat} (hS : Sep sel js) (hn : 0 ≤ n)
    (h1 : js[r]? = some (some pq)) (hr : r < k) (hI : InvS t sel js (lev n σ ((js.take k).drop r)) w) (hb : ∀ x, some x ∈ js → StOk (σ x.1))
    (hs : StAt t w' (sel pq) ((lev n σ ((js.take k).drop r) pq.1).at_ ((lev n σ ((js.take k).drop r) pq.1).level + n) (lev n σ ((js.take k).drop r) pq.1).rest)) (hf0 : Fr (· = sel pq) w w') (hf : Fr (Of sel js) w0 w) :
    BackAt t sel n σ js k w0 (.int .i64 ((r + 1 : Nat) : Int)) w' := by
  have hm : some pq ∈ js := List.mem_of_getElem? h1
  have hL := lev_back n σ ((js.take k).drop (r + 1)) pq
  rw [← drop_next h1 hr] at hL
  refine ⟨r + 1, rfl, hr, ?_, hf.trans (hf0.mono fun x _ e => ⟨pq, hm, e⟩)⟩
  rw [hL]
  exact hI.step hS hm hs (back_ok hn h1 hr hI hb) hf0
end Go.Proofs.Ytgogagapapdlgaa
