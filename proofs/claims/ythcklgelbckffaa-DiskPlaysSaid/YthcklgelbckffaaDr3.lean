/-
  bazaarref08.Disk: carry, Sync.
-/
import Derived.Test.YthcklgelbckffaaDr2
import Derived.Test.YthcklgelbckffaaDkU
namespace Go.Proofs.Ythcklgelbckffaa
open Go.RowKit
set_option linter.unusedVariables false
set_option linter.unusedSimpArgs false
theorem putSec_set {sf : List Nat} {k n : Nat} {x : List Nat} (h : sf.length = n * 64) (hk : k < n) (hx : x.length = 64) {j : Nat} (hj : j < 64) (y : Nat) : (putSec sf k x).set (k * 64 + j) y = putSec sf k (x.set j y) := by
  have hl := putSec_len h hk hx
  have hh := Nat.mul_le_mul_right 64 (show k + 1 ≤ n by omega)
  apply List.ext_getElem?
  intro i
  by_cases e : i = k * 64 + j
  · subst e
    rw [List.getElem?_set_self (by omega), putSec_get h hk (by simpa using hx), if_pos (by omega), Nat.add_sub_cancel_left, List.getElem?_set_self (by omega)]
  · rw [List.getElem?_set_ne (by omega), putSec_get h hk hx, putSec_get h hk (by simpa using hx)]
    by_cases h2 : k * 64 ≤ i ∧ i < k * 64 + 64
    · rw [if_pos h2, if_pos h2, List.getElem?_set_ne (by omega)]
    · rw [if_neg h2, if_neg h2]
theorem torn_succ {sf : List Nat} {k n : Nat} {d : List Nat} (h : sf.length = n * 64) (hk : k < n) (hd : d.length = 64) {j : Nat} (hj : j < 64) : (torn sf k d j).set (k * 64 + j) (d.getD j 0) = torn sf k d (j + 1) := by
  have hs := sec_len h hk
  show (putSec sf k (mix (sec sf k) d j)).set _ _ = putSec sf k (mix (sec sf k) d (j + 1))
  rw [putSec_set h hk (mix_len hs hd (by omega)) hj, mix_succ hs hd hj]
theorem putSec_sec {sf : List Nat} {k n : Nat} (h : sf.length = n * 64) (hk : k < n) : putSec sf k (sec sf k) = sf := by
  unfold putSec sec
  have e : sf.take (k * 64) ++ (sf.drop (k * 64)).take 64 = sf.take (k * 64 + 64) := (List.take_add ..).symm
  rw [e, List.take_append_drop]
theorem torn_zero {sf : List Nat} {k n : Nat} {d : List Nat} (h : sf.length = n * 64) (hk : k < n) : torn sf k d 0 = sf := putSec_sec h hk
theorem torn_full {sf : List Nat} {k n : Nat} {d : List Nat} (h : sf.length = n * 64) (hk : k < n) (hd : d.length = 64) : torn sf k d 64 = putSec sf k d := by
  show putSec sf k (d.take 64 ++ (sec sf k).drop 64) = _
  rw [List.take_of_length_le (by omega), List.drop_eq_nil_of_le (by rw [sec_len h hk]; omega), List.append_nil]
theorem RAt.laid {w w' : World} {q n : Nat} {SA : Option Addr} {sc : Nat} {gs : Option Nat} {RA : Option Addr} {rc : Nat} {gr : Option Nat} {vs : List (Nat × Nat × Nat)} {s : DS} (h : RAt w q n SA sc gs RA rc gr vs s) {sf' : List Nat} (hO : Ow w' 5 1 SA (n * 64) sc (sf'.map bn) gs) (hl : sf'.length = n * 64) (hf : Fr (fun k => gs = some k) w w') :
    RAt w' q n SA sc gs RA rc gr vs { s with sf := sf' } :=
  ⟨h.bl.fr hf h.nqs, hO, h.rows.fr hf (fun b e e' => h.nsr e' e), h.len, fun i r v a b => (h.data i r v a b).fr hf (fun y hy e => by cases hy; exact h.off v (List.mem_of_getElem? b) e), h.off, ⟨h.ok.n1, h.ok.n2, hl, h.ok.row, h.ok.f1, h.ok.f2, h.ok.c1, h.ok.c2, h.ok.c3⟩⟩
set_option maxHeartbeats 4000000 in
set_option maxRecDepth 8000 in
theorem carry_any {w : World} {q n : Nat} {SA : Option Addr} {sc : Nat} {gs : Option Nat} {RA : Option Addr} {rc : Nat} {gr : Option Nat} {vs : List (Nat × Nat × Nat)} {s : DS} (h : RAt w q n SA sc gs RA rc gr vs s) (k : Nat) (hk : k < n) (d : List Nat) (hd : d.length = 64) (vb vo vc : Nat) (hD : Sl w 1 (some ⟨vb, vo, none⟩) 64 (d.map bn)) (hv : gs ≠ some vb) (c : Nat) (hc : c ≤ 64) :
    Calls Try.prog 47 #[.pointer (some ⟨q, 0, none⟩), .agg #[.int .i64 (k : Int), .slice (some ⟨vb, vo, none⟩) 64 vc], .int .i64 (c : Int)] w fun e w' => e = .returned (.tuple #[]) ∧ RAt w' q n SA sc gs RA rc gr vs { s with sf := torn s.sf k d c } ∧ Fr (fun k => gs = some k) w w' := by
  have hn2 := h.ok.n2
  have c0w : w.cell? ⟨q, 0, none⟩ = some (.slice SA (n * 64) sc) := h.bl.cell' rfl
  obtain ⟨m, hm⟩ : ∃ m, n * 64 = m := ⟨_, rfl⟩
  have H := hide h
  have HD := hide hD
  have Hd := hide hd
  have hO0 := h.safe
  have hqs := hide h.nqs
  rw [hm] at c0w hO0
  have HO0 := hide hO0
  have Hm := hide hm
  have Hv := hide hv
  clear h hD hd hO0 hm hv
  go_enter Try.func47, Try.ntmps47
  go_wp2_with fail
  obtain ⟨w1, Hw1⟩ : ∃ w1, Hid (w1 = w.alloc (.cells #[.int .i64 (k : Int), .slice (some ⟨vb, vo, none⟩) 64 vc] tWait)) := ⟨_, rfl⟩
  obtain ⟨bx, hbx⟩ : ∃ bx, w.heap.size = bx := ⟨_, rfl⟩
  have HB : Hid (Bl w1 bx tWait #[.int .i64 (k : Int), .slice (some ⟨vb, vo, none⟩) 64 vc]) := by rw [Hw1.out, ← hbx]; exact Bl.new _ _ _
  have F1 : Hid (Fr (fun _ => False) w w1) := by rw [Hw1.out]; exact (Fr.refl _ _).alloc _
  have hgx : ¬ gs = some bx := fun e => by have := HO0.out.lt bx e; omega
  have Hgx := hide hgx
  rw [← Hw1.out, hbx]
  clear hgx Hw1 hbx
  go_loopw [6] (fun v wr => ∃ j : Nat, j ≤ c ∧ v = .int .i64 j ∧ Hid (Ow wr 5 1 SA m sc ((torn s.sf k d j).map bn) gs) ∧ Hid (Fr (fun x => gs = some x) w1 wr)) (fun v _ => c - (intOf v).toNat)
  case atStart => exact ⟨0, Nat.zero_le _, rfl, by rw [torn_zero H.out.ok.len hk]; exact HO0.out.fr F1.out (fun _ _ => id), Fr.refl _ _⟩
  case round =>
    obtain ⟨j, hj, rfl, HO, Hf⟩ := hrel
    by_cases hlt : j < c
    · have hh := Nat.mul_le_mul_right 64 (show k + 1 ≤ n by omega)
      have hkm : k * 64 + j < m := by have := Hm.out; omega
      have htl := torn_len (c := j) H.out.ok.len hk Hd.out (by omega)
      obtain ⟨b', o', e1, cdw⟩ := HD.out.at_ (bn_get (xs := d) (k := j) (by rw [Hd.out]; omega))
      cases e1
      obtain ⟨sb, so, rfl, rfl, cs, zs⟩ := HO.out.look (bn_get (xs := torn s.sf k d j) (k := k * 64 + j) (by rw [htl, Hm.out]; exact hkm))
      have hvb : ¬ some sb = some vb := Hv.out
      have f1r : Fr (fun x => some sb = some x) w wr := (F1.out.weak _).trans Hf.out
      have cd := (f1r.cell (World.block_lt_of_cell? w _ cdw) hvb).trans cdw
      have cq := (f1r.cell (World.block_lt_of_cell? w _ c0w) hqs.out).trans c0w
      have hbw := HB.out.fr Hf.out Hgx.out
      have cx0 : wr.cell? ⟨bx, 0, none⟩ = some (.int .i64 (k : Int)) := hbw.cell' rfl
      have cx1 : wr.cell? ⟨bx, 1, none⟩ = some (.slice (some ⟨vb, vo, none⟩) 64 vc) := hbw.cell' rfl
      obtain ⟨t, ht⟩ : ∃ t, k * 64 = t := ⟨_, rfl⟩
      obtain ⟨u, hu⟩ : ∃ u, k * 64 + j = u := ⟨_, rfl⟩
      rw [hu] at cs zs hkm
      have q1 : IntKind.i64.wrap (64 * (k : Int)) = (t : Int) := by rw [IntWalk.i64_in _ (by omega)]; omega
      have q2 : IntKind.i64.wrap ((t : Int) + (j : Int)) = (u : Int) := by rw [IntWalk.i64_in _ (by omega)]; omega
      have i0 : (0 : Int) ≤ (j : Int) := by omega
      have i1 : (j : Int) < 64 := by omega
      have i2 : (0 : Int) ≤ (u : Int) := by omega
      have i3 : (u : Int) < (m : Int) := by omega
      have i4 : (j : Int) < (c : Int) := by omega
      have Hu := hide hu
      have Hh := hide hh
      have Hcdw := hide cdw
      have Hb := hide hbw
      have H1r := hide f1r
      clear ht hu hh htl cdw hbw hvb f1r
      go_wp2_with fail
      refine region_tail 15 (by kernel_rfl) (by kernel_rfl) ?_
      intro w2 Hw2 hcw2 hzw2 hsw2
      simp only [List.take_succ_cons, List.take_zero, List.drop_succ_cons, List.drop_zero]
      repeat still_step
      refine wpStill_nil ?_
      go_wp2_with fail
      refine ⟨⟨j + 1, by omega, by go_num, ?_, ?_⟩, by simp [intOf]; omega⟩
      · have hO2 := HO.out.fr (S := fun _ => False) (w' := w2) (by rw [Hw2.out]; exact (Fr.refl _ _).drew) (fun _ _ => id)
        have := hO2.put (j := u) (by omega) (bn (d.getD j 0))
        rw [← List.map_set, ← Hu.out, torn_succ H.out.ok.len hk Hd.out (by omega)] at this
        rw [← Hu.out]
        exact this
      · have hf2 : Fr (fun x => some sb = some x) w1 w2 := by rw [Hw2.out]; exact Hf.out.drew
        exact hf2.setIn (.inl rfl) _
    · obtain rfl : j = c := by omega
      go_wp2_with fail
      go_end0
      have hO := HO.out
      rw [← Hm.out] at hO
      have hfw : Fr (fun k => gs = some k) w wr := (F1.out.weak _).trans Hf.out
      exact ⟨rfl, H.out.laid hO (torn_len H.out.ok.len hk Hd.out hc) hfw, hfw⟩
end Go.Proofs.Ythcklgelbckffaa
