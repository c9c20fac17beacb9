/-
  ring.Ring[int]: Drop, Pop.
-/
import Derived.Test.YteleakbbppbnnaaRg1
namespace Go.Proofs.Yteleakbbppbnnaa
open Go.RowKit
set_option linter.unusedVariables false

def foot (p : Nat) (g : Option Nat) : Nat → Prop := fun x => x = p ∨ some x = g
/-- One thing less. -/
def RS.pop (s : RS) : RS := ⟨s.room, (s.first + 1) % s.vals.length, s.vals.set s.first 0, s.xs.drop 1⟩
theorem RS.pop_ok {s : RS} (h : s.Ok) (h0 : 0 < s.xs.length) : s.pop.Ok := by
  obtain ⟨hn, -, -, -⟩ := RS.pos h h0
  have hfl : s.first < s.vals.length := by rcases h.f with h1 | h1 <;> omega
  have hl1 := h.l1
  refine ⟨h.r1, h.r2, ?_, ?_, .inr ?_, fun i hi => ?_⟩
  · show (s.xs.drop 1).length ≤ (s.vals.set s.first 0).length
    rw [List.length_drop, List.length_set]; omega
  · show (s.vals.set s.first 0).length ≤ s.room
    rw [List.length_set]; exact h.l2
  · show (s.first + 1) % s.vals.length < (s.vals.set s.first 0).length
    rw [List.length_set]; exact Nat.mod_lt _ hn
  · have hi' : i + 1 < s.xs.length := by
      have : i < (s.xs.drop 1).length := hi
      rw [List.length_drop] at this; omega
    show (s.vals.set s.first 0)[((s.first + 1) % s.vals.length + i) % (s.vals.set s.first 0).length]? = (s.xs.drop 1)[i]?
    rw [List.length_set, Nat.mod_add_mod, show s.first + 1 + i = s.first + (i + 1) by omega, List.getElem?_drop, Nat.add_comm 1 i]
    have hne : s.first ≠ (s.first + (i + 1)) % s.vals.length := by
      intro e
      by_cases hb : s.first + (i + 1) < s.vals.length
      · rw [Nat.mod_eq_of_lt hb] at e; omega
      · rw [Nat.mod_eq_sub_mod (by omega), Nat.mod_eq_of_lt (by omega)] at e; omega
    rw [List.getElem?_set_ne hne, h.at_ (i + 1) hi']
/-- Behind a Drop of k things. -/
def DropOut (w : World) (p : Nat) (C : Option Addr) (cc : Nat) (g : Option Nat) (s : RS) (k : Nat) (w' : World) : Prop :=
  ∃ s' : RS, s'.room = s.room ∧ s'.xs = s.xs.drop k ∧ s'.vals.length = s.vals.length ∧ RingAt w' p C cc g s' ∧ Fr (foot p g) w w'
/-- 'so many were dropped'. -/
def Dropping (w0 : World) (p : Nat) (C : Option Addr) (cc : Nat) (g : Option Nat) (s : RS) (k : Nat) (i : Value) (w : World) : Prop :=
  ∃ j : Nat, i = .int .i64 (j : Int) ∧ j ≤ k ∧ DropOut w0 p C cc g s j w

set_option maxHeartbeats 2000000 in
set_option maxRecDepth 4000 in
theorem drop_any {p : Nat} {C : Option Addr} {cc : Nat} {g : Option Nat} {s : RS} (w : World) (h : RingAt w p C cc g s) (n : Int) (k : Nat) (hk : k = if n < 1 then 0 else min n.toNat s.xs.length) :
    Calls Try.prog 16 #[.pointer (some ⟨p, 0, none⟩), .int .i64 n] w fun e w' => e = .returned (.int .i64 (k : Int)) ∧ DropOut w p C cc g s k w' := by
  have hbl := h.bl
  have hle : s.xs.length ≤ 65536 := by have := h.ok.l1; have := h.ok.l2; have := h.ok.r2; omega
  obtain ⟨nx, hnx⟩ : ∃ nx, s.xs.length = nx := ⟨_, rfl⟩
  rw [hnx] at hk hle hbl
  have hlen := len_any w hbl
  have Hk := hide hk
  have Hnx := hide hnx
  have H := hide h
  clear hk h hnx hbl
  by_cases h1 : n < 1
  · have hk0 : Hid (k = 0) := by show _ = _; rw [Hk.out, if_pos h1]
    have hout : Hid (DropOut w p C cc g s 0 w) := ⟨s, rfl, by simp, rfl, H.out, Fr.refl _ _⟩
    have hm : min n (nx : Int) < 1 := by omega
    go_enter Try.func16, Try.ntmps16
    go_wp2_with fail
    refine hlen.mono ?_
    rintro e w' ⟨rfl, rfl⟩
    go_wp2_with fail
    go_ret
    exact ⟨by rw [hk0.out]; rfl, by rw [hk0.out]; exact hout.out⟩
  · have hkn : k = min n.toNat nx := by rw [Hk.out, if_neg h1]
    have hmin : Hid (min n (nx : Int) = (k : Int)) := show _ = _ by omega
    by_cases hx0 : nx = 0
    · have hk0 : k = 0 := by omega
      subst hk0
      have hmin' : min n (nx : Int) = 0 := by omega
      have hout : Hid (DropOut w p C cc g s 0 w) := ⟨s, rfl, by simp, rfl, H.out, Fr.refl _ _⟩
      clear hkn
      go_enter Try.func16, Try.ntmps16
      go_wp2_with fail
      refine hlen.mono ?_
      rintro e w' ⟨rfl, rfl⟩
      go_wp2_with fail
      go_ret
      exact ⟨rfl, hout.out⟩
    · have hk1 : 1 ≤ k := by omega
      have hkx : k ≤ nx := by omega
      have hkb : k ≤ 65536 := by omega
      have hmin' : (if (nx : Int) < n then (nx : Int) else n) = (k : Int) := by split <;> omega
      have hk1' : ¬ (k : Int) < 1 := by omega
      clear hkn
      go_enter Try.func16, Try.ntmps16
      go_wp2_with fail
      refine hlen.mono ?_
      rintro e w' ⟨rfl, rfl⟩
      go_wp2_with fail
      clear hmin' hlen
      go_loopw [13] (fun i wr => Dropping w p C cc g s k i wr) (fun i _ => k - (intOf i).toNat)
      case atStart => exact ⟨0, rfl, Nat.zero_le _, s, rfl, by simp, rfl, H.out, Fr.refl _ _⟩
      case round =>
        obtain ⟨j, rfl, hj, s1, e1, e2, e3, h1, hf1⟩ := hrel
        by_cases hlt : j < k
        · have hl1 : s1.xs.length = nx - j := by rw [e2, List.length_drop, Hnx.out]
          obtain ⟨hn0, hfb, -, hnb⟩ := RS.pos h1.ok (i := 0) (by omega)
          have hpop := RS.pop_ok h1.ok (by omega)
          have hfl : s1.first < s1.vals.length := by have := h1.ok.f; omega
          have hbl := h1.bl
          have hne := h1.ne
          have how := h1.ow
          obtain ⟨x0, hx0⟩ : ∃ x0, s1.vals[s1.first]? = some x0 := ⟨_, List.getElem?_eq_getElem hfl⟩
          obtain ⟨b, o, rfl, hg, hc, hz⟩ := how.look (j := s1.first) (u := .int .i64 x0) (by rw [List.getElem?_map, hx0]; rfl)
          have hbp : p ≠ b := fun e => by rw [hg, e] at hne; exact hne rfl
          obtain ⟨nc, hnc⟩ : ∃ nc, s1.vals.length = nc := ⟨_, rfl⟩
          obtain ⟨n1, hn1⟩ : ∃ n1, s1.xs.length = n1 := ⟨_, rfl⟩
          obtain ⟨f, hf⟩ : ∃ f, s1.first = f := ⟨_, rfl⟩
          obtain ⟨rm, hrm⟩ : ∃ rm, s1.room = rm := ⟨_, rfl⟩
          rw [hnc] at hn0 hnb hfl how
          rw [hf] at hfb hfl hc hz
          rw [hn1] at hl1
          rw [hnc, hf, hn1, hrm] at hbl
          have Hnc := hide hnc
          have Hn1 := hide hn1
          have Hf := hide hf
          have Hrm := hide hrm
          have Hg := hide hg
          have how2 := hide how
          have hpop2 := hide hpop
          have H1 := hide h1
          clear hnc hn1 hf hrm hx0 hg hne how hpop h1
          obtain ⟨f2, hf2⟩ : ∃ f2, (f + 1) % nc = f2 := ⟨_, rfl⟩
          have Hf2 := hide hf2
          clear hf2
          have c0 : wr.cell? ⟨p, 0, none⟩ = some (.slice (some ⟨b, o, none⟩) nc cc) := hbl.cell' rfl
          have c2 : wr.cell? ⟨p, 2, none⟩ = some (.int .i64 (f : Int)) := hbl.cell' rfl
          have i1 : (0 : Int) ≤ (f : Int) := by omega
          have i2 : (f : Int) < (nc : Int) := by omega
          have hn1b : 1 ≤ n1 := by omega
          have hn1c : n1 ≤ 65536 := by omega
          go_wp2_with fail
          refine region_tail 10 (by kernel_rfl) (by kernel_rfl) ?_
          intro w1 Hw1 hcw1 hzw1 hsw1
          simp only [List.take_succ_cons, List.take_zero, List.drop_succ_cons, List.drop_zero]
          repeat still_step
          refine wpStill_nil ?_
          go_wp2_with fail
          have hbl2 : Bl (w1.setCell ⟨b, o + f, none⟩ (.int .i64 0)) p tRing #[.slice (some ⟨b, o, none⟩) nc cc, .int .i64 (rm : Int), .int .i64 (f : Int), .int .i64 (n1 : Int)] := by rw [Hw1.out]; exact hbl.drew.far hbp _
          have hO2 : Hid (Ow (w1.setCell ⟨b, o + f, none⟩ (.int .i64 0)) 3 1 (some ⟨b, o, none⟩) nc cc ((s1.vals.map iv).set f (.int .i64 0)) g) := by
            rw [Hw1.out]
            exact (how2.out.fr ((Fr.refl (fun _ => False) wr).drew) (fun _ _ => id)).put (by omega) _
          have hF2 : Fr (foot p g) wr (w1.setCell ⟨b, o + f, none⟩ (.int .i64 0)) := by rw [Hw1.out]; exact (Fr.refl _ _).drew.setIn (.inl (.inr Hg.out.symm)) _
          refine (place_any _ 1 hbl2 hn0 hfb (by omega) hnb f2 Hf2.out).mono ?_
          rintro e w2 ⟨rfl, m, rfl⟩
          have hbl3 := hbl2.drewN m
          have d2 := hbl3.cell' (i := 2) rfl
          have d3 : ((w1.setCell ⟨b, o + f, none⟩ (.int .i64 0)).drewN m).cell? ⟨p, 3, none⟩ = some (.int .i64 (n1 : Int)) := hbl3.cell' rfl
          have z2 := hbl3.free 2
          have z3 := hbl3.free 3
          generalize hw3 : (w1.setCell ⟨b, o + f, none⟩ (.int .i64 0)).drewN m = w3 at hbl3 d2 d3 z2 z3 ⊢
          have d2' : w3.cell? ⟨p, 2, none⟩ = some (.int .i64 (f : Int)) := d2
          clear d2
          go_wp2_with fail
          have hj1 : ((j : Int) + 1) = ((j + 1 : Nat) : Int) := by omega
          have hbl4 := (hbl3.set 2 (.int .i64 (f2 : Int))).set 3 (.int .i64 ((n1 : Int) - 1))
          have hO3 : Hid (Ow w3 3 1 (some ⟨b, o, none⟩) nc cc ((s1.vals.map iv).set f (.int .i64 0)) g) := by
            rw [← hw3]; exact hO2.out.fr ((Fr.refl (fun _ => False) _).drewN m) (fun _ _ => id)
          have hF3 : Fr (foot p g) wr w3 := by rw [← hw3]; exact hF2.drewN m
          have hF4 : Fr (· = p) w3 ((w3.setCell ⟨p, 2, none⟩ (.int .i64 (f2 : Int))).setCell ⟨p, 3, none⟩ (.int .i64 ((n1 : Int) - 1))) := ((Fr.refl _ _).setAt _).setAt _
          rw [hj1, ← hl1]
          refine ⟨⟨j + 1, rfl, hlt, s1.pop, e1, ?_, ?_, ⟨?_, ?_, hpop2.out⟩, hf1.trans (hF3.trans (hF4.mono fun k _ e => .inl e))⟩, by simp [intOf]; omega⟩
          · show s1.xs.drop 1 = _
            rw [e2, List.drop_drop]
          · show (s1.vals.set s1.first 0).length = _
            rw [List.length_set, e3]
          · have : Bl _ p tRing _ := hbl4
            show Bl _ p tRing #[.slice (some ⟨b, o, none⟩) (s1.vals.set s1.first 0).length cc, .int .i64 (s1.room : Int), .int .i64 (((s1.first + 1) % s1.vals.length : Nat) : Int), .int .i64 ((s1.xs.drop 1).length : Int)]
            rw [List.length_set, List.length_drop, Hnc.out, Hn1.out, Hf.out, Hrm.out, Hf2.out, show ((n1 - 1 : Nat) : Int) = (n1 : Int) - 1 by omega]
            exact hbl4
          · have h5 := hO3.out.fr hF4 (fun b' e e' => hbp (by rw [Hg.out] at e; cases e; exact e'.symm))
            show Ow _ 3 1 (some ⟨b, o, none⟩) (s1.vals.set s1.first 0).length cc ((s1.vals.set s1.first 0).map iv) g
            rw [List.length_set, Hnc.out, List.map_set, Hf.out]
            exact h5
        · obtain rfl : j = k := by omega
          go_wp2_with fail
          go_ret
          exact ⟨rfl, s1, e1, e2, e3, h1, hf1⟩
end Go.Proofs.Yteleakbbppbnnaa
