/-
  bazaar/ring.Ring[bazaar/drr.job[int]]: Drop.
-/
import Derived.Test.YtanfhmebjgmdpaaRq1i
namespace Go.Proofs.Ytanfhmebjgmdpaa.Qi
open Go.RowKit
set_option linter.unusedVariables false
attribute [local go_sem ↓] storeJ_

abbrev RDropOut := QDropOut (X := X) tRing tJob 2 enc
abbrev RKeep := QKeep (X := X) tRing tJob 2 enc
theorem ne_types : tJob ≠ tRing := by decide
theorem run_loadAt_slice {w : World} {a : Addr} {A : Option Addr} {n c : Nat} (h : w.cell? a = some (.slice A n c)) : (Instr.loadAt 133 (.pointer (some a))).run Try.prog w = .ok (.slice A n c) w := run_loadAt_cell _ _ Try.underlying133 rfl h
theorem run_loadAt_int {w : World} {a : Addr} {v : Value} (h : w.cell? a = some v) : (Instr.loadAt 3 (.pointer (some a))).run Try.prog w = .ok v w := run_loadAt_cell _ _ Try.underlying3 rfl h
/-- 'so many were dropped'. -/
def Dropping (w0 : World) (p : Nat) (C : Option Addr) (cc : Nat) (g : Option Nat) (s : QS X) (k : Nat) (i : Value) (w : World) (N : Nat) : Prop :=
  ∃ j : Nat, i = .int .i64 (j : Int) ∧ j ≤ k ∧ RDropOut w0 p C cc g s j w ∧ Bl w N tJob (enc zeroX).toArray

set_option maxHeartbeats 2000000 in
set_option maxRecDepth 10000 in
attribute [-go_sem] Go.Instr.loadAt in
theorem drop_any {p : Nat} {C : Option Addr} {cc : Nat} {g : Option Nat} {s : QS X} (w : World) (h : RingAt w p C cc g s) (n : Int) (k : Nat) (hk : k = if n < 1 then 0 else min n.toNat s.xs.length) :
    Calls Try.prog 39 #[.pointer (some ⟨p, 0, none⟩), .int .i64 n] w fun e w' => e = .returned (.int .i64 (k : Int)) ∧ RDropOut w p C cc g s k w' := by
  have hbl := h.bl
  have hle : s.xs.length ≤ 65536 := by have := h.ok.l1; have := h.ok.l2; have := h.ok.r2; omega
  obtain ⟨nx, hnx⟩ : ∃ nx, s.xs.length = nx := ⟨_, rfl⟩
  rw [hnx] at hk hle hbl
  have hlen := len_any w hbl
  have Hk := hide hk
  have Hnx := hide hnx
  have H := hide h
  clear hk h hnx
  by_cases h1 : n < 1
  · have hk0 : Hid (k = 0) := by show _ = _; rw [Hk.out, if_pos h1]
    have hout : Hid (RDropOut w p C cc g s 0 w) := ⟨s, rfl, by simp, rfl, H.out, Fr.refl _ _⟩
    have hm : min n (nx : Int) < 1 := by omega
    go_enter Try.func39, Try.ntmps39
    go_wp2_with fail
    refine hlen.mono ?_
    rintro e w' ⟨rfl, rfl⟩
    go_wp2_with fail
    go_ret
    exact ⟨by rw [hk0.out]; rfl, by rw [hk0.out]; exact hout.out⟩
  · have hkn : k = min n.toNat nx := by rw [Hk.out, if_neg h1]
    have hmin : Hid (min n (nx : Int) = (k : Int)) := show _ = _ by omega
    by_cases hx0 : nx = 0
    · have hk0 : k = 0 := by omega
      subst hk0
      have hmin' : min n (nx : Int) = 0 := by omega
      have hout : Hid (RDropOut w p C cc g s 0 w) := ⟨s, rfl, by simp, rfl, H.out, Fr.refl _ _⟩
      clear hkn
      go_enter Try.func39, Try.ntmps39
      go_wp2_with fail
      refine hlen.mono ?_
      rintro e w' ⟨rfl, rfl⟩
      go_wp2_with fail
      go_ret
      exact ⟨rfl, hout.out⟩
    · have hk1 : 1 ≤ k := by omega
      have hkx : k ≤ nx := by omega
      have hkb : k ≤ 65536 := by omega
      have hmin' : (if (nx : Int) < n then (nx : Int) else n) = (k : Int) := by split <;> omega
      have hk1' : ¬ (k : Int) < 1 := by omega
      clear hkn
      go_enter Try.func39, Try.ntmps39
      go_wp2_with fail
      refine hlen.mono ?_
      rintro e w' ⟨rfl, rfl⟩
      go_wp2_with fail
      clear hmin' hlen
      have H0 : Hid (RDropOut w p C cc g s 0 (w.alloc (.cells (enc zeroX).toArray tJob)) ∧ Bl (w.alloc (.cells (enc zeroX).toArray tJob)) w.heap.size tJob (enc zeroX).toArray ∧ w.heap.size ≠ p ∧ g ≠ some w.heap.size) := by
        have hF : Fr (fun _ => False) w (w.alloc (.cells (enc zeroX).toArray tJob)) := (Fr.refl _ _).alloc _
        exact ⟨⟨s, rfl, by simp, rfl, H.out.fr hF id (fun _ _ => id), hF.weak _⟩, Bl.new _ _ _, by have := hbl.lt; omega, fun e => by have := H.out.ow.lt _ e; omega⟩
      obtain ⟨N, hN⟩ : ∃ N, w.heap.size = N := ⟨_, rfl⟩
      rw [hN] at H0
      simp only [hN]
      have HN := hide hN
      clear hN hbl
      go_loopw [13] (fun i wr => Dropping w p C cc g s k i wr N) (fun i _ => k - (intOf i).toNat)
      case atStart => exact ⟨0, rfl, Nat.zero_le _, H0.out.1, H0.out.2.1⟩
      case round =>
        obtain ⟨j, rfl, hj, ⟨s1, e1, e2, e3, h1, hf1⟩, hNb⟩ := hrel
        by_cases hlt : j < k
        · have hl1 : s1.xs.length = nx - j := by rw [e2, List.length_drop, Hnx.out]
          obtain ⟨hn0, hfb, -, hnb⟩ := QS.pos h1.ok (i := 0) (by omega)
          have hpop := QS.pop_ok zeroX h1.ok (by omega)
          have hfl : s1.first < s1.vals.length := by have := h1.ok.f; omega
          have hbl := h1.bl
          have hne := h1.ne ne_types
          have how := h1.ow
          obtain ⟨x0, hx0⟩ : ∃ x0, s1.vals[s1.first]? = some x0 := ⟨_, List.getElem?_eq_getElem hfl⟩
          obtain ⟨b, o, cur, rfl, hg, -⟩ := how.row enc_len hx0 rfl
          have hbp : p ≠ b := fun e => by rw [hg, e] at hne; exact hne rfl
          have hNbb : N ≠ b := fun e => by have := H0.out.2.2.2; rw [hg, e] at this; exact this rfl
          have hNp := H0.out.2.2.1
          obtain ⟨nc, hnc⟩ : ∃ nc, s1.vals.length = nc := ⟨_, rfl⟩
          obtain ⟨n1, hn1⟩ : ∃ n1, s1.xs.length = n1 := ⟨_, rfl⟩
          obtain ⟨f, hf⟩ : ∃ f, s1.first = f := ⟨_, rfl⟩
          obtain ⟨rm, hrm⟩ : ∃ rm, s1.room = rm := ⟨_, rfl⟩
          rw [hnc] at hn0 hnb hfl how
          rw [hf] at hfb hfl
          rw [hn1] at hl1
          rw [hnc, hf, hn1, hrm] at hbl
          have Hnc := hide hnc
          have Hn1 := hide hn1
          have Hf := hide hf
          have Hrm := hide hrm
          have Hg := hide hg
          have how2 := hide how
          have hpop2 := hide hpop
          have H1 := hide h1
          clear hnc hn1 hf hrm hx0 hg hne how hpop h1
          obtain ⟨f2, hf2⟩ : ∃ f2, (f + 1) % nc = f2 := ⟨_, rfl⟩
          have Hf2 := hide hf2
          clear hf2
          have i1 : (0 : Int) ≤ (f : Int) := by omega
          have i2 : (f : Int) < (nc : Int) := by omega
          have hn1b : 1 ≤ n1 := by omega
          have hn1c : n1 ≤ 65536 := by omega
          go_wp2_with fail
          refine region_tail 10 (by kernel_rfl) (by kernel_rfl) ?_
          intro w1 Hw1 hcw1 hzw1 hsw1
          have hF1 : Fr (fun _ => False) wr w1 := by rw [Hw1.out]; exact (Fr.refl _ _).drew
          have hbl1 := hbl.fr hF1 id
          have hl0 : (Instr.loadAt 133 (.pointer (some ⟨p, 0, none⟩))).run Try.prog w1 = .ok (.slice (some ⟨b, o, none⟩) nc cc) w1 := run_loadAt_slice (hbl1.cell' rfl)
          have hl2 : (Instr.loadAt 3 (.pointer (some ⟨p, 2, none⟩))).run Try.prog w1 = .ok (.int .i64 (f : Int)) w1 := run_loadAt_int (hbl1.cell' rfl)
          have hlz : (Instr.loadAt 99 (.pointer (some ⟨N, 0, none⟩))).run Try.prog w1 = .ok (.agg (enc zeroX).toArray) w1 := (hNb.fr hF1 id).loadIn (P := Try.prog) (ty := tJob) zeroX (enc_len _) Try.underlying99 rfl infoJob
          obtain ⟨ws, hst, hO2, hF2⟩ := (how2.out.fr hF1 (fun _ _ => id)).storeIn (P := Try.prog) (ty := tJob) enc_len enc_one hfl Hnc.out zeroX infoJob
          clear hcw1 hzw1 hsw1
          simp only [List.take_succ_cons, List.take_zero, List.drop_succ_cons, List.drop_zero]
          repeat still_step
          refine wpStill_nil ?_
          go_wp2_with fail
          have hbls : Bl ws p tRing #[.slice (some ⟨b, o, none⟩) nc cc, .int .i64 (rm : Int), .int .i64 (f : Int), .int .i64 (n1 : Int)] := hbl1.fr hF2 hbp
          have hNs := (hNb.fr hF1 id).fr hF2 hNbb
          have hFs : Fr (qfoot p g) wr ws := (hF1.weak _).trans (hF2.mono fun x _ e => .inr (by rw [e]; exact Hg.out.symm))
          refine (place_any _ 1 hbls hn0 hfb (by omega) hnb f2 Hf2.out).mono ?_
          rintro e w2 ⟨rfl, m, rfl⟩
          have hbl3 := hbls.drewN m
          have hN3 := hNs.drewN m
          have hO3 : Hid (Ow (ws.drewN m) tJob 2 (some ⟨b, o, none⟩) nc cc (cellsOf enc (s1.vals.set f zeroX)) g) := hO2
          have hF3 : Fr (qfoot p g) wr (ws.drewN m) := hFs.drewN m
          clear hl0 hl2 hlz hst hbl1 hNs
          generalize hw3 : ws.drewN m = w3 at hbl3 hN3 hO3 hF3 ⊢
          have d2' : w3.cell? ⟨p, 2, none⟩ = some (.int .i64 (f : Int)) := hbl3.cell' rfl
          have z2 := hbl3.free 2
          have z3 := hbl3.free 3
          have d3 : w3.cell? ⟨p, 3, none⟩ = some (.int .i64 (n1 : Int)) := hbl3.cell' rfl
          have hl3 : (Instr.loadAt 3 (.pointer (some ⟨p, 3, none⟩))).run Try.prog (w3.setCell ⟨p, 2, none⟩ (.int .i64 (f2 : Int))) = .ok (.int .i64 (n1 : Int)) (w3.setCell ⟨p, 2, none⟩ (.int .i64 (f2 : Int))) := run_loadAt_int ((hbl3.set 2 _).cell' rfl)
          go_wp2_with fail
          have hj1 : ((j : Int) + 1) = ((j + 1 : Nat) : Int) := by omega
          have hbl4 := (hbl3.set 2 (.int .i64 (f2 : Int))).set 3 (.int .i64 ((n1 : Int) - 1))
          have hF4 : Fr (· = p) w3 ((w3.setCell ⟨p, 2, none⟩ (.int .i64 (f2 : Int))).setCell ⟨p, 3, none⟩ (.int .i64 ((n1 : Int) - 1))) := ((Fr.refl _ _).setAt _).setAt _
          rw [hj1, ← hl1]
          refine ⟨⟨j + 1, rfl, hlt, ⟨s1.pop zeroX, e1, ?_, ?_, ⟨?_, ?_, hpop2.out⟩, hf1.trans (hF3.trans (hF4.mono fun k _ e => .inl e))⟩, hN3.fr hF4 hNp⟩, by simp [intOf]; omega⟩
          · show s1.xs.drop 1 = _
            rw [e2, List.drop_drop]
          · show (s1.vals.set s1.first zeroX).length = _
            rw [List.length_set, e3]
          · show Bl _ p tRing #[.slice (some ⟨b, o, none⟩) (s1.vals.set s1.first zeroX).length cc, .int .i64 (s1.room : Int), .int .i64 (((s1.first + 1) % s1.vals.length : Nat) : Int), .int .i64 ((s1.xs.drop 1).length : Int)]
            rw [List.length_set, List.length_drop, Hnc.out, Hn1.out, Hf.out, Hrm.out, Hf2.out, show ((n1 - 1 : Nat) : Int) = (n1 : Int) - 1 by omega]
            exact hbl4
          · have h5 := hO3.out.fr hF4 (fun b' e e' => hbp (by rw [Hg.out] at e; cases e; exact e'.symm))
            show Ow _ tJob 2 (some ⟨b, o, none⟩) (s1.vals.set s1.first zeroX).length cc (cellsOf enc (s1.vals.set s1.first zeroX)) g
            rw [List.length_set, Hnc.out, Hf.out]
            exact h5
        · obtain rfl : j = k := by omega
          go_wp2_with fail
          go_ret
          exact ⟨rfl, s1, e1, e2, e3, h1, hf1⟩
theorem dropR_any {p : Nat} {g : Option Nat} {room : Nat} {xs : List X} (w : World) (n : Int) (h : RI w p g room xs) :
    Calls Try.prog 39 #[.pointer (some ⟨p, 0, none⟩), .int .i64 n] w fun e w' => e = .returned (.int .i64 ((if n < 1 then 0 else min n.toNat xs.length : Nat) : Int)) ∧ RKeep w p g room (xs.drop (if n < 1 then 0 else min n.toNat xs.length)) w' := by
  obtain ⟨C, cc, s, rfl, rfl, h⟩ := h
  exact (drop_any w h n _ rfl).mono fun e w' ⟨he, hd⟩ => ⟨he, QKeep.ofDrop hd⟩
end Go.Proofs.Ytanfhmebjgmdpaa.Qi
