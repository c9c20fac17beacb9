/-
  Three slices that are filled place by place (FO).
-/
import Derived.Test.YteleakbbppbnnaaRo2
namespace Go.Proofs.Yteleakbbppbnnaa
open Go.RowKit
set_option linter.unusedVariables false

structure FO (w0 w : World) (ab : Nat) (A : Nat → Option Addr) (n c : Nat → Nat) (g : Nat → Option Nat) (V : Nat → List Int) : Prop where
  hgd : ∀ j j' b, j < 3 → j' < 3 → g j = some b → g j' = some b → j = j'
  bl : Bl w ab tInts #[.slice (A 0) (n 0) (c 0), .slice (A 1) (n 1) (c 1), .slice (A 2) (n 2) (c 2)]
  ow : ∀ j, j < 3 → Ow w tInt 1 (A j) (n j) (c j) ((V j).map iv) (g j)
  fr : Fr (fun b => ∃ j, j < 3 ∧ g j = some b) w0 w
section
variable {w0 w : World} {ab : Nat} {A : Nat → Option Addr} {n c : Nat → Nat} {g : Nat → Option Nat} {V : Nat → List Int}
theorem bl3 {w : World} {ab : Nat} {t : TypeId} {A : Nat → Option Addr} {n c : Nat → Nat} (h : Bl w ab t #[.slice (A 0) (n 0) (c 0), .slice (A 1) (n 1) (c 1), .slice (A 2) (n 2) (c 2)]) {i : Nat} (hi : i < 3) :
    w.cell? ⟨ab, i, none⟩ = some (.slice (A i) (n i) (c i)) := by
  match i, hi with
  | 0, _ => exact h.cell' rfl
  | 1, _ => exact h.cell' rfl
  | 2, _ => exact h.cell' rfl
theorem FO.nab (h : FO w0 w ab A n c g V) {i : Nat} (hi : i < 3) : g i ≠ some ab := by
  intro e
  have h1 := h.ow i hi
  rw [e] at h1
  obtain ⟨cs, hc⟩ := h1.ty
  exact absurd (h.bl.same hc).2 (by decide)
theorem FO.put (h : FO w0 w ab A n c g V) {i k b o : Nat} (hi : i < 3) (hk : k < n i) (hA : A i = some ⟨b, o, none⟩) (v : Int) :
    FO w0 (w.setCell ⟨b, o + k, none⟩ (.int .i64 v)) ab A n c g (fun j => if j = i then (V i).set k v else V j) := by
  have hi' := h.ow i hi
  have hb : g i = some b := hi'.at_g hA
  have hF : Fr (· = b) w (w.setCell ⟨b, o + k, none⟩ (.int .i64 v)) := (Fr.refl _ _).setAt _
  refine ⟨h.hgd, h.bl.fr hF (fun e => h.nab hi (by rw [hb, e])), fun j hj => ?_, h.fr.trans (hF.mono fun x _ e => ⟨i, hi, by rw [hb, e]⟩)⟩
  by_cases hji : j = i
  · subst hji
    rw [if_pos rfl, List.map_set]
    have h2 := hA ▸ hi'
    have h3 := h2.put (j := k) (by omega) (.int .i64 v)
    rw [← hA] at h3
    exact h3
  · rw [if_neg hji]
    exact (h.ow j hj).fr hF (fun b' e e' => hji (h.hgd j i b hj hi (by rw [e, e']) hb))
theorem FO.len (h : FO w0 w ab A n c g V) {j : Nat} (hj : j < 3) : (V j).length = n j := by
  have := (h.ow j hj).1; simpa using this
/-- All of them are full: they can be grown. -/
theorem FO.go (h : FO w0 w ab A n c g V) (hV : ∀ j, j < 3 → V j = fullI n j) : GO w0 w ab A n c g 0 [] none 0 none [] :=
  ⟨h.hgd, h.bl, fun j _ hj => by rw [← hV j hj]; exact h.ow j hj, fun r hr => (nomatch hr), Ow.nil_ _ _ _, (fun e => (nomatch e)), rfl, (fun j hj => absurd hj (by omega)), (fun j r hr => (by simp at hr)), h.fr⟩
end
/-- k marks are written. -/
def Filled (n : Nat → Nat) (V : Nat → List Int) (i k : Nat) : Prop := (∀ j, j < i → V j = fullI n j) ∧ (V i).take k = List.replicate k (-5000 - (i : Int))
theorem Filled.step {n : Nat → Nat} {V : Nat → List Int} {i k : Nat} (h : Filled n V i k) (hk : k < (V i).length) : Filled n (fun j => if j = i then (V i).set k (-5000 - (i : Int)) else V j) i (k + 1) := by
  refine ⟨fun j hj => ?_, ?_⟩
  · show (if j = i then _ else _) = _
    rw [if_neg (by omega)]; exact h.1 j hj
  · show (if i = i then _ else _ : List Int).take (k + 1) = _
    rw [if_pos rfl, List.take_add_one, List.take_set_of_le (Nat.le_refl _), h.2, List.getElem?_set_self hk, List.replicate_succ']; rfl
theorem Filled.done {n : Nat → Nat} {V : Nat → List Int} {i k : Nat} (h : Filled n V i k) (hk : (V i).length = n i) (hn : k = n i) : Filled n V (i + 1) 0 := by
  refine ⟨fun j hj => ?_, by simp⟩
  rcases Nat.lt_or_eq_of_le (Nat.lt_succ_iff.1 hj) with h1 | rfl
  · exact h.1 j h1
  · have := h.2
    rw [List.take_of_length_le (by omega), hn] at this
    exact this
theorem get_full (n : Nat → Nat) (i k : Nat) (h : k < n i) : ((fullI n i).map iv)[k]? = some (.int .i64 (-5000 - (i : Int))) := by
  simp [fullI, iv, h]
theorem get_grown1 (n : Nat → Nat) (i m k : Nat) (h : k < n i) : ((grownI n i m).map iv)[k]? = some (.int .i64 (-5000 - (i : Int))) := by
  simp [grownI, fullI, iv, h, List.getElem?_append]
theorem get_grown2 (n : Nat → Nat) (i m k : Nat) (h : ¬ k < n i) (h2 : k < n i + m) : ((grownI n i m).map iv)[k]? = some (.int .i64 (-6000 - (i : Int))) := by
  simp [grownI, fullI, iv, h, List.getElem?_append, List.getElem?_replicate]
  omega
end Go.Proofs.Yteleakbbppbnnaa
