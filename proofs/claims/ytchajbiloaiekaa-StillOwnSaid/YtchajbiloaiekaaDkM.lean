/-
  marked of chapter 08: lists in memory of their own are written over, gone on with, and looked at.
-/
import Derived.Test.YtchajbiloaiekaaDkB
namespace Go.Proofs.Ytchajbiloaiekaa
open Go.RowKit
set_option linter.unusedVariables false
set_option linter.unusedSimpArgs false
/-- An item of a row of lists: its own block, its capacity its length. -/
def It (w : World) (b o n : Nat) (xs : List Nat) : Prop := ∃ e, Ow w e 1 (some ⟨b, o, none⟩) n n (xs.map bn) (some b)
structure Its (w : World) (rb m : Nat) (B O N : Nat → Nat) (f : Nat → List Nat) : Prop where
  row : ∀ i, i < m → w.cell? ⟨rb, i, none⟩ = some (.slice (some ⟨B i, O i, none⟩) (N i) (N i))
  it : ∀ i, i < m → It w (B i) (O i) (N i) (f i)
  apart : ∀ i j, i < m → j < m → B i = B j → i = j
  off : ∀ i, i < m → B i ≠ rb
theorem It.len {w : World} {b o n : Nat} {xs : List Nat} (h : It w b o n xs) : xs.length = n := by
  obtain ⟨e, h⟩ := h; have := h.1; simpa using this
theorem It.fr {w w' : World} {b o n : Nat} {xs : List Nat} {S : Nat → Prop} (h : It w b o n xs) (hf : Fr S w w') (hS : ¬ S b) : It w' b o n xs := by
  obtain ⟨e, h⟩ := h; exact ⟨e, h.fr hf (fun x hx => by cases hx; exact hS)⟩
theorem It.lt {w : World} {b o n : Nat} {xs : List Nat} (h : It w b o n xs) : b < w.heap.size := by
  obtain ⟨e, h⟩ := h; exact h.lt b rfl
theorem It.cap {w : World} {b o n : Nat} {xs : List Nat} (h : It w b o n xs) : n ≤ maxLen := by
  obtain ⟨e, h⟩ := h; exact h.cap.2
theorem It.look {w : World} {b o n : Nat} {xs : List Nat} (h : It w b o n xs) {k : Nat} (hk : k < n) : w.cell? ⟨b, o + k, none⟩ = some (.int .u8 ((xs.getD k 0 : Nat) : Int)) ∧ w.frozen? ⟨b, o + k, none⟩ = false := by
  have hl := h.len
  obtain ⟨e, h⟩ := h
  obtain ⟨b', o', e1, -, c, z⟩ := h.look (bn_get (xs := xs) (k := k) (by omega))
  cases e1; exact ⟨c, z⟩
theorem It.put {w : World} {b o n : Nat} {xs : List Nat} (h : It w b o n xs) {k : Nat} (hk : k < n) (v : Nat) : It (w.setCell ⟨b, o + k, none⟩ (bn v)) b o n (xs.set k v) := by
  obtain ⟨e, h⟩ := h
  have := h.put (j := k) (by omega) (bn v)
  rw [← List.map_set] at this
  exact ⟨e, this⟩
def upd (f : Nat → List Nat) (i : Nat) (xs : List Nat) : Nat → List Nat := fun j => if j = i then xs else f j
theorem Its.fr {w w' : World} {rb m : Nat} {B O N : Nat → Nat} {f : Nat → List Nat} {S : Nat → Prop} (h : Its w rb m B O N f) (hf : Fr S w w') (hr : ¬ S rb) (hS : ∀ i, i < m → ¬ S (B i)) : Its w' rb m B O N f :=
  ⟨fun i hi => (hf.cell (p := ⟨rb, i, none⟩) (World.block_lt_of_cell? w _ (h.row i hi)) hr).trans (h.row i hi), fun i hi => (h.it i hi).fr hf (hS i hi), h.apart, h.off⟩
theorem Its.put {w : World} {rb m : Nat} {B O N : Nat → Nat} {f : Nat → List Nat} (h : Its w rb m B O N f) {i k : Nat} (hi : i < m) (hk : k < N i) (v : Nat) : Its (w.setCell ⟨B i, O i + k, none⟩ (bn v)) rb m B O N (upd f i ((f i).set k v)) := by
  have hF : Fr (fun x => x = B i) w (w.setCell ⟨B i, O i + k, none⟩ (bn v)) := (Fr.refl _ _).setAt _
  refine ⟨fun j hj => (hF.cell (p := ⟨rb, j, none⟩) (World.block_lt_of_cell? w _ (h.row j hj)) (fun e => h.off i hi e.symm)).trans (h.row j hj), fun j hj => ?_, h.apart, h.off⟩
  by_cases e : j = i
  · subst e; unfold upd; rw [if_pos rfl]; exact (h.it j hj).put hk v
  · unfold upd; rw [if_neg e]; exact (h.it j hj).fr hF (fun q => e (h.apart j i hj hi q))
/-- The marks that marked lays. -/
def mkN (i k : Nat) : Nat := (37 * i + k) % 256
def mkT (i k : Nat) : List Nat := (List.range k).map fun x => (11 * i + x) % 256
theorem mkT_succ (i k : Nat) : mkT i (k + 1) = mkT i k ++ [(11 * i + k) % 256] := by simp [mkT, List.range_succ]
theorem mkT_len (i k : Nat) : (mkT i k).length = k := by simp [mkT]
theorem wrap_u8n (x : Nat) : IntKind.u8.wrap ((x : Nat) : Int) = ((x % 256 : Nat) : Int) := by rw [IntKind.wrap_u8]; omega
/-- A list that was gone on with. -/
def MoreAt (w0 w : World) (N : Nat → Nat) (f : Nat → List Nat) (g5 : Option Nat) (j : Nat) (v : Value) : Prop :=
  ∃ A c b e, v = .slice A (N j + 70) c ∧ Ow w e 1 A (N j + 70) c ((f j ++ mkT j 70).map bn) (some b) ∧ w0.heap.size ≤ b ∧ g5 ≠ some b
theorem MoreAt.fr {w0 w w' : World} {N : Nat → Nat} {f : Nat → List Nat} {g5 : Option Nat} {j : Nat} {v : Value} {S : Nat → Prop} (h : MoreAt w0 w N f g5 j v) (hf : Fr S w w') (hS : ∀ b, w0.heap.size ≤ b → g5 ≠ some b → b < w.heap.size → ¬ S b) : MoreAt w0 w' N f g5 j v := by
  obtain ⟨A, c, b, e, h1, h2, h3, h4⟩ := h
  exact ⟨A, c, b, e, h1, h2.fr hf (fun x hx => by cases hx; exact hS b h3 h4 (h2.lt b rfl)), h3, h4⟩
theorem Sl.adds {w : World} {b o m : Nat} {xs : List Value} (h : Sl w 1 (some ⟨b, o, none⟩) m xs) : ∀ (j : Nat) (u : Value), xs[j]? = some u → w.cell? ((⟨b, o, none⟩ : Addr).add j) = some u := fun j u hu => by
  obtain ⟨b', o', e1, c⟩ := h.at_ hu
  cases e1
  rw [Addr.add_lit]; exact c
theorem MoreAt.regrow {w0 w w' : World} {N : Nat → Nat} {f : Nat → List Nat} {g5 g6 : Option Nat} {j : Nat} {v : Value} (h : MoreAt w0 w N f g5 j v) (hf : Fr (fun k => some k = g5) w w') (hg : g6 = g5 ∨ ∃ b, g6 = some b ∧ w.heap.size ≤ b) : MoreAt w0 w' N f g6 j v := by
  obtain ⟨A, c, b, e, h1, h2, h3, h4⟩ := h
  refine ⟨A, c, b, e, h1, h2.fr hf (fun x hx => by cases hx; exact fun e => h4 e.symm), h3, ?_⟩
  rcases hg with rfl | ⟨b', rfl, hb⟩
  · exact h4
  · intro e; cases e; have := h2.lt b rfl; omega
theorem infoRow : (Try.prog.info? 22).map (fun i => (i.zero, i.size, i.bytes)) = some (some (.slice none 0 0), 1, 24) := by kernel_rfl
end Go.Proofs.Ytchajbiloaiekaa
