/-
  drr: a server that is made line by line (plain).
-/
import Derived.Test.YtanfhmebjgmdpaaDr0
import Derived.Laws.MakeOwn
namespace Go.Proofs.Ytanfhmebjgmdpaa
open Go.RowKit
set_option linter.unusedVariables false
def blank (_ : Unit) : List Value := [.pointer none, .int .i64 0, .int .i64 0]
theorem blank_len (u : Unit) : (blank u).length = 3 := rfl
section
variable {X : Type} (cost : X → Int)
/-- The lines that are made, and those that are not yet. -/
def making (ls : List (LN X)) (m : Nat) : Array Value := (cellsOf (lcells cost) ls ++ cellsOf blank (List.replicate m ())).toArray
def fresh (p : Nat) : LN X := ⟨p, none, [], 0⟩
theorem making_zero (n : Nat) : madeCells #[.pointer none, .int .i64 0, .int .i64 0] (n * 3) = making cost [] n := by
  have := madeCells_of (enc := blank) (sz := 3) blank_len (by omega) () n
  apply Array.toList_inj.1
  rw [show (#[.pointer none, .int .i64 0, .int .i64 0] : Array Value) = (blank ()).toArray from rfl, this]
  simp [making, cellsOf]
theorem making_next (ls : List (LN X)) (m p : Nat) : (making cost ls (m + 1)).setIfInBounds (ls.length * 3) (.pointer (some ⟨p, 0, none⟩)) = making cost (ls ++ [fresh p]) m := by
  have hl := cellsOf_length (enc := lcells cost) (lcells_len cost) ls
  apply Array.toList_inj.1
  unfold making
  rw [Array.toList_setIfInBounds]
  simp only []
  rw [List.set_append_right _ _ (by omega), hl, Nat.sub_self, List.replicate_succ, cellsOf_append]
  simp [cellsOf, blank, lcells, fresh, csum]
theorem making_done (ls : List (LN X)) : making cost ls 0 = (cellsOf (lcells cost) ls).toArray := by simp [making, cellsOf]
theorem making_cell (ls : List (LN X)) (m : Nat) (hm : 0 < m) : (making cost ls m)[ls.length * 3]? = some (.pointer none) := by
  have hl := cellsOf_length (enc := lcells cost) (lcells_len cost) ls
  obtain ⟨m, rfl⟩ : ∃ k, m = k + 1 := ⟨m - 1, by omega⟩
  unfold making
  rw [List.getElem?_toArray, List.getElem?_append_right (by omega), hl, Nat.sub_self, List.replicate_succ]
  simp [cellsOf, blank]
end
end Go.Proofs.Ytanfhmebjgmdpaa
