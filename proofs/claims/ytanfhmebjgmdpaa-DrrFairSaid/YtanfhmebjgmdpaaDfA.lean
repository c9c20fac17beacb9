/-
  Opening: a Pair as an argument.
-/
import Derived.Test.YtanfhmebjgmdpaaDtA
import Derived.Test.YtanfhmebjgmdpaaDf3
namespace Go.Proofs.Ytanfhmebjgmdpaa
open Go.ChangeShapes Go.WideShapes Go.ChangeAt Go.RowKit Go.Deep Go.Joins
set_option linter.unusedVariables false
section
variable {H : Type} {enc : TypeId × Value → H} {W : World} {base : Nat} {spare : Nat → Bool} {held : Bool}
set_option maxRecDepth 100000 in
theorem open_pair {fuel : Nat} {cs : List Value} {x : DataW H × List MemPlace} (h : DataW.trod enc Try.prog W base spare held fuel 46 cs = some x) (hw : ∀ v ∈ x.1.weights Try.prog 46, v ≤ reachBytes) :
    ∃ (a b c : Int) (A : Option Addr) (n c2 : Nat) (pa pb pf : Int) (f : Nat → Nat → Value), cs = [.int .i64 a, .int .i64 b, .int .i64 c, .slice A n c2, .int .i64 pa, .int .i64 pb, .int .i64 pf] ∧ Qj.in64 a ∧ Qj.in64 b ∧ Qj.in64 c ∧ Qj.in64 pa ∧ Qj.in64 pb ∧ Qj.in64 pf ∧
      Cells W W.heap.size A n 6 f ∧ (∀ i, i < n → ∀ j, j < 6 → f i j = .int .i64 (intOf (f i j)) ∧ Qj.in64 (intOf (f i j))) ∧ n * 48 ≤ 140737488355328 := by
  obtain ⟨ys, n0, _, hx, hl, hyl, hF⟩ := DataW.trod_struct Try.underlying46 h
  rw [show Try.prog.cellsOf 46 = 7 by kernel_rfl] at hl
  match cs, hl with
  | [u0, u1, u2, u3, u4, u5, u6], _ =>
    match ys, hyl with
    | [y0, y1, y2, y3, y4], _ =>
      have e0 : DataW.trod enc Try.prog W base spare held n0 23 (([u0, u1, u2, u3, u4, u5, u6].drop 0).take (Try.prog.cellsOf 23)) = some y0 := hF 0 _ rfl
      have e1 : DataW.trod enc Try.prog W base spare held n0 24 (([u0, u1, u2, u3, u4, u5, u6].drop 3).take (Try.prog.cellsOf 24)) = some y1 := hF 1 _ rfl
      have e2 : DataW.trod enc Try.prog W base spare held n0 3 (([u0, u1, u2, u3, u4, u5, u6].drop 4).take (Try.prog.cellsOf 3)) = some y2 := hF 2 _ rfl
      have e3 : DataW.trod enc Try.prog W base spare held n0 3 (([u0, u1, u2, u3, u4, u5, u6].drop 5).take (Try.prog.cellsOf 3)) = some y3 := hF 3 _ rfl
      have e4 : DataW.trod enc Try.prog W base spare held n0 3 (([u0, u1, u2, u3, u4, u5, u6].drop 6).take (Try.prog.cellsOf 3)) = some y4 := hF 4 _ rfl
      rw [show Try.prog.cellsOf 3 = 1 by kernel_rfl] at e2 e3 e4
      rw [show Try.prog.cellsOf 23 = 3 by kernel_rfl] at e0
      rw [show Try.prog.cellsOf 24 = 1 by kernel_rfl] at e1
      obtain ⟨a, b, c, h0, wa, wb, wc⟩ := open_shape e0
      obtain ⟨A, n, c2, f, h1, hn, hc, hlen, hcell, hfld⟩ := open_structsW Try.underlying24 Try.underlying35 (by kernel_rfl) (by kernel_rfl) (by decide) e1
      obtain ⟨pa, h2, -, w2⟩ := DataW.trod_int Try.underlying3 e2
      obtain ⟨pb, h3, -, w3⟩ := DataW.trod_int Try.underlying3 e3
      obtain ⟨pf, h4, -, w4⟩ := DataW.trod_int Try.underlying3 e4
      simp only [List.drop_zero, List.take_succ_cons, List.take_zero, List.drop_succ_cons, List.cons.injEq, and_true] at h0 h1 h2 h3 h4
      obtain ⟨rfl, rfl, rfl⟩ := h0
      subst h1 h2 h3 h4
      refine ⟨a, b, c, A, n, c2, pa, pb, pf, f, rfl, wa, wb, wc, bd64 w2, bd64 w3, bd64 w4, hcell, fun i hi j hj => ?_, ?_⟩
      · match j, hj with
        | 0, _ =>
          obtain ⟨y, m, hy, _⟩ := hfld i hi 0 _ rfl
          obtain ⟨z, e, -, wz⟩ := DataW.trod_int Try.underlying3 hy
          have e2 : f i 0 = .int .i64 z := by simpa using e
          rw [e2]; exact ⟨rfl, bd64 wz⟩
        | 1, _ =>
          obtain ⟨y, m, hy, _⟩ := hfld i hi 1 _ rfl
          obtain ⟨z, e, -, wz⟩ := DataW.trod_int Try.underlying3 hy
          have e2 : f i 1 = .int .i64 z := by simpa using e
          rw [e2]; exact ⟨rfl, bd64 wz⟩
        | 2, _ =>
          obtain ⟨y, m, hy, _⟩ := hfld i hi 2 _ rfl
          obtain ⟨z, e, -, wz⟩ := DataW.trod_int Try.underlying3 hy
          have e2 : f i 2 = .int .i64 z := by simpa using e
          rw [e2]; exact ⟨rfl, bd64 wz⟩
        | 3, _ =>
          obtain ⟨y, m, hy, _⟩ := hfld i hi 3 _ rfl
          obtain ⟨z, e, -, wz⟩ := DataW.trod_int Try.underlying3 hy
          have e2 : f i 3 = .int .i64 z := by simpa using e
          rw [e2]; exact ⟨rfl, bd64 wz⟩
        | 4, _ =>
          obtain ⟨y, m, hy, _⟩ := hfld i hi 4 _ rfl
          obtain ⟨z, e, -, wz⟩ := DataW.trod_int Try.underlying3 hy
          have e2 : f i 4 = .int .i64 z := by simpa using e
          rw [e2]; exact ⟨rfl, bd64 wz⟩
        | 5, _ =>
          obtain ⟨y, m, hy, _⟩ := hfld i hi 5 _ rfl
          obtain ⟨z, e, -, wz⟩ := DataW.trod_int Try.underlying3 hy
          have e2 : f i 5 = .int .i64 z := by simpa using e
          rw [e2]; exact ⟨rfl, bd64 wz⟩
      · rcases hlen with h0 | ⟨el, sp, hd, hll⟩
        · subst h0; omega
        · have hm : (el.length + sp.length) * Try.prog.bytesOf 35 ∈ x.1.weights Try.prog 46 := by
            rw [hx]
            refine weights_agg (j := 1) Try.underlying46 rfl (d := y1.1) rfl ?_
            rw [hd]
            exact weights_own Try.underlying24
          have h4 := hw _ hm
          rw [show Try.prog.bytesOf 35 = 48 from by kernel_rfl] at h4
          have := reachBytes_lt
          omega
end
end Go.Proofs.Ytanfhmebjgmdpaa
