/-
  Opening: three numbers as an argument.
-/
import Derived.Test.YtanfhmebjgmdpaaFrameW
import Derived.Test.YtanfhmebjgmdpaaDt9
import Derived.Test.YtanfhmebjgmdpaaRows
import Derived.Test.YtanfhmebjgmdpaaChecked
namespace Go.Proofs.Ytanfhmebjgmdpaa
open Go.ChangeShapes Go.WideShapes Go.ChangeAt Go.RowKit Go.Deep Go.Joins
set_option linter.unusedVariables false
section
variable {H : Type} {enc : TypeId × Value → H} {W : World} {base : Nat} {spare : Nat → Bool} {held : Bool}
set_option maxRecDepth 100000 in
theorem open_shape {fuel : Nat} {cs : List Value} {x : DataW H × List MemPlace} (h : DataW.trod enc Try.prog W base spare held fuel 23 cs = some x) :
    ∃ a b c : Int, cs = [.int .i64 a, .int .i64 b, .int .i64 c] ∧ Qj.in64 a ∧ Qj.in64 b ∧ Qj.in64 c := by
  obtain ⟨ys, n, _, _, hl, hyl, hF⟩ := DataW.trod_struct Try.underlying23 h
  rw [show Try.prog.cellsOf 23 = 3 by kernel_rfl] at hl
  match cs, hl with
  | [u0, u1, u2], _ =>
    match ys, hyl with
    | [y0, y1, y2], _ =>
      have e0 : DataW.trod enc Try.prog W base spare held n 3 (([u0, u1, u2].drop 0).take (Try.prog.cellsOf 3)) = some y0 := hF 0 _ rfl
      have e1 : DataW.trod enc Try.prog W base spare held n 3 (([u0, u1, u2].drop 1).take (Try.prog.cellsOf 3)) = some y1 := hF 1 _ rfl
      have e2 : DataW.trod enc Try.prog W base spare held n 3 (([u0, u1, u2].drop 2).take (Try.prog.cellsOf 3)) = some y2 := hF 2 _ rfl
      rw [show Try.prog.cellsOf 3 = 1 by kernel_rfl] at e0 e1 e2
      obtain ⟨a, ha, -, wa⟩ := DataW.trod_int Try.underlying3 e0
      obtain ⟨b, hb, -, wb⟩ := DataW.trod_int Try.underlying3 e1
      obtain ⟨c, hc, -, wc⟩ := DataW.trod_int Try.underlying3 e2
      have ha' : u0 = .int .i64 a := by simpa using ha
      have hb' : u1 = .int .i64 b := by simpa using hb
      have hc' : u2 = .int .i64 c := by simpa using hc
      subst ha' hb' hc'
      exact ⟨a, b, c, rfl, bd64 wa, bd64 wb, bd64 wc⟩
end
end Go.Proofs.Ytanfhmebjgmdpaa
