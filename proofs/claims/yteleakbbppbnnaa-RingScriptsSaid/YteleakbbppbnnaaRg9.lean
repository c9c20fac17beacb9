/-
  RingFirst: awake; what is held between two calls.
-/
import Derived.Test.YteleakbbppbnnaaRg8
namespace Go.Proofs.Yteleakbbppbnnaa
open Go.RowKit
set_option linter.unusedVariables false

theorem sl_two (w : World) (v u : Value) (e : TypeId) : Sl (w.alloc (.cells #[v, u] e)) 1 (some ⟨w.heap.size, 0, none⟩) 2 [v, u] := by
  refine ⟨rfl, fun _ => ⟨w.heap.size, 0, rfl, fun j x hx => ?_⟩⟩
  have hb := Bl.new w e #[v, u]
  rcases j with _ | _ | j
  · simp at hx; subst hx; exact hb.cell' rfl
  · simp at hx; subst hx; exact hb.cell' rfl
  · simp at hx
/-- A call's own ring: its blocks are new. -/
theorem ROut.new {w w' : World} {p B : Nat} {g : Option Nat} {room : Nat} {xs : List Int} (h : ROut w p g room xs w') (hB : B ≤ w.heap.size) (hf : ∀ b, foot p g b → B ≤ b) : ∃ g', RI w' p g' room xs ∧ Fr (fun k => B ≤ k) w w' ∧ ∀ b, foot p g' b → B ≤ b := by
  obtain ⟨g', h, hfr, hg⟩ := h
  refine ⟨g', h, hfr.mono fun k _ e => hf k e, fun b hb => ?_⟩
  rcases hb with rfl | hb
  · exact hf b (.inl rfl)
  · rcases hg with rfl | ⟨x, rfl, hx⟩
    · exact hf b (.inr hb)
    · cases hb; omega
set_option maxHeartbeats 4000000 in
theorem awake_any (w : World) : Calls Try.prog 6 #[] w fun e w' => e = .returned (.bool true) ∧ Fr (fun _ => False) w w' := by
  obtain ⟨p, hp⟩ : ∃ p, w.heap.size = p := ⟨_, rfl⟩
  go_enter Try.func6, Try.ntmps6
  go_wp2_with fail
  refine (new_ok _ 2 (by omega) (by omega)).mono ?_
  rintro e w1 ⟨rfl, hr1, hf1, hs1⟩
  rw [hp] at hr1 hs1 ⊢
  have hI1 : RI w1 p none 2 [] := ⟨_, _, _, rfl, rfl, hr1⟩
  have hB1 : ∀ b, foot p none b → p ≤ b := fun b hb => by rcases hb with rfl | hb; exact Nat.le_refl _; cases hb
  clear hr1
  go_wp2_with fail
  have hA1 : Fr (fun _ => False) w1 (w1.alloc (.cells #[.int .i64 1, .int .i64 2] 3)) := (Fr.refl _ _).alloc _
  refine (push_ok _ (hI1.fr hA1 (fun _ _ => id)) _ 2 2 [1, 2] (sl_two _ _ _ _) (fun _ b ⟨o, e⟩ hb hf => by have := hI1.lt hf; cases e; omega) (by simp)).mono ?_
  rintro e w2 ⟨rfl, hR2⟩
  obtain ⟨g2, hI2, hf2, hB2⟩ := hR2.new (B := p) (by have := hA1.size; omega) hB1
  clear hR2
  have hs2 := hf2.size
  have hs2' := hA1.size
  go_wp2_with fail
  have hA2 : Fr (fun _ => False) w2 (w2.alloc (.cells #[.int .i64 3] 3)) := (Fr.refl _ _).alloc _
  refine (push_full _ (hI2.fr hA2 (fun _ _ => id)) _ 1 1 (by simp)).mono ?_
  rintro e w3 ⟨rfl, hf3⟩
  have hI3 := (hI2.fr hA2 (fun _ _ => id)).fr hf3 (fun _ _ => id)
  have hs3 := hA2.size
  have hs3' := hf3.size
  go_wp2_with fail
  refine (pop_any _ hI3).mono ?_
  rintro e w4 ⟨rfl, hI4, hf4⟩
  go_wp2_with fail
  refine (lenR_any _ hI4).mono ?_
  rintro e w5 ⟨rfl, rfl⟩
  go_wp2_with fail
  go_ret
  refine ⟨rfl, ?_⟩
  have hF : Fr (fun k => p ≤ k) w w4 := ((((hf1.weak _).trans (hA1.weak _)).trans hf2).trans ((hA2.weak _).trans (hf3.weak _))).trans (hf4.mono fun k _ e => hB2 k e)
  exact hF.mono fun k hk e => by omega

/-- n numbers from a on. -/
def seqI (a n : Nat) : List Int := (List.range n).map fun i => ((a + i : Nat) : Int)
theorem seqI_len (a n : Nat) : (seqI a n).length = n := by simp [seqI]
theorem seqI_get {a n i : Nat} (h : i < n) : (seqI a n)[i]? = some ((a + i : Nat) : Int) := by simp [seqI, h]
theorem seqI_app (a n m : Nat) : seqI a n ++ seqI (a + n) m = seqI a (n + m) := by
  apply List.ext_getElem?
  intro i
  by_cases h : i < n
  · rw [List.getElem?_append_left (by rw [seqI_len]; exact h), seqI_get h, seqI_get (by omega)]
  · rw [List.getElem?_append_right (by rw [seqI_len]; omega), seqI_len]
    by_cases h2 : i < n + m
    · rw [seqI_get (by omega), seqI_get h2, show a + n + (i - n) = a + i by omega]
    · rw [List.getElem?_eq_none (by rw [seqI_len]; omega), List.getElem?_eq_none (by rw [seqI_len]; omega)]
theorem seqI_drop (a n k : Nat) : (seqI a n).drop k = seqI (a + k) (n - k) := by
  apply List.ext_getElem?
  intro i
  rw [List.getElem?_drop]
  by_cases h : k + i < n
  · rw [seqI_get h, seqI_get (by omega), Nat.add_assoc]
  · rw [List.getElem?_eq_none (by rw [seqI_len]; omega), List.getElem?_eq_none (by rw [seqI_len]; omega)]
theorem seqI_succ (a n : Nat) : seqI a (n + 1) = seqI a n ++ [((a + n : Nat) : Int)] := by
  rw [← seqI_app a n 1]; simp [seqI]

/-- Between two calls: two rings of the call's own; what they hold is the numbers from 'out' on, below 'in'. -/
structure FS (B : Nat) (w0 w : World) (p q rp rq a b : Nat) (gp gq : Option Nat) (xs ys : List Int) : Prop where
  d : Duo w p gp rp xs q gq rq ys
  seq : ys ++ xs = seqI b (a - b)
  le : b ≤ a
  fr : Fr (fun k => B ≤ k) w0 w
  sz : B ≤ w0.heap.size
  new : ∀ k, foot p gp k ∨ foot q gq k → B ≤ k
section
variable {B : Nat} {w0 w w' : World} {p q rp rq a b : Nat} {gp gq : Option Nat} {xs ys : List Int}
theorem FS.len (h : FS B w0 w p q rp rq a b gp gq xs ys) : ys.length + xs.length = a - b := by
  have := congrArg List.length h.seq
  rwa [List.length_append, seqI_len] at this
theorem FS.quiet (h : FS B w0 w p q rp rq a b gp gq xs ys) (hf : Fr (fun _ => False) w w') : FS B w0 w' p q rp rq a b gp gq xs ys :=
  ⟨⟨h.d.a.fr hf (fun _ _ => id), h.d.b.fr hf (fun _ _ => id), h.d.ap⟩, h.seq, h.le, h.fr.trans (hf.weak _), h.sz, h.new⟩
theorem FS.later (h : FS B w0 w p q rp rq a b gp gq xs ys) (hf : Fr (fun k => w.heap.size ≤ k) w w') : FS B w0 w' p q rp rq a b gp gq xs ys := by
  have h1 := h.fr.size
  have h2 := h.sz
  refine ⟨⟨h.d.a.fr hf (fun b hb e => by have := h.d.a.lt hb; omega), h.d.b.fr hf (fun b hb e => by have := h.d.b.lt hb; omega), h.d.ap⟩, h.seq, h.le, h.fr.trans (hf.mono fun k _ e => by omega), h.sz, h.new⟩
theorem FS.turn {xs' ys' : List Int} {a' b' : Nat} (h : FS B w0 w p q rp rq a b gp gq xs ys) (ho : DuoOut w p gp rp xs' q gq rq ys' w') (hs : ys' ++ xs' = seqI b' (a' - b')) (hle : b' ≤ a') :
    ∃ gp' gq', FS B w0 w' p q rp rq a' b' gp' gq' xs' ys' := by
  obtain ⟨g1, g2, hd, hf, hn⟩ := ho
  refine ⟨g1, g2, hd, hs, hle, h.fr.trans (hf.mono fun k _ e => h.new k e), h.sz, fun k hk => ?_⟩
  by_cases hlt : k < w.heap.size
  · exact h.new k (hn k hlt hk)
  · have := h.fr.size; have := h.sz; omega
end
end Go.Proofs.Yteleakbbppbnnaa
