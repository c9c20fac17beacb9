/-
  disk.Disk: Crash.
-/
import Derived.Test.YthcklgelbckffaaDk8
namespace Go.Proofs.Ythcklgelbckffaa
open Go.RowKit
set_option linter.unusedVariables false
set_option linter.unusedSimpArgs false
theorem setCells_drewN (b : Nat) : ∀ (vs : List Value) (o n : Nat) (w : World), (w.drewN n).setCells b o vs = (w.setCells b o vs).drewN n
  | [], _, _, _ => rfl
  | v :: vs, o, n, w => by
    simp only [World.setCells]
    rw [show (w.drewN n).setCell ⟨b, o, none⟩ v = (w.setCell ⟨b, o, none⟩ v).drewN n from rfl]
    exact setCells_drewN b vs _ n _
theorem putSec_self {sf : List Nat} {k n : Nat} (h : sf.length = n * 64) (hk : k < n) : putSec sf k ((sf.drop (k * 64)).take 64) = sf := by
  unfold putSec
  have e : sf.take (k * 64) ++ (sf.drop (k * 64)).take 64 = sf.take (k * 64 + 64) := (List.take_add ..).symm
  rw [e, List.take_append_drop]
theorem u8size : (Try.prog.info? 5).map (·.size) = some 1 := by kernel_rfl
theorem mayNewSd {w : World} : MayRow (w.alloc (.cells secZ.toArray 73)).drew w.heap.size 0 64 := MayRow.new (w := w) secZ_len
theorem setNewSd {w : World} {cs : List Value} (h : Row64 cs) : (w.alloc (.cells secZ.toArray 73)).drew.setCells w.heap.size 0 cs = (w.alloc (.cells cs.toArray 73)).drew := by
  rw [← setNewS h]
  exact setCells_drewN _ _ _ 1 _
attribute [local go_sem ↓] opstill_loadS opstill_min opstill_max opwp_loadS opwp_loadW opwp_storeS opwp_storeW opwp_allocS opwp_allocW sem_array
attribute [local go_sem] loadS_eq loadW_eq storeS_row storeW_row allocS_eq allocW_eq mayNewS mayNewW setNewS setNewW mayNewC setNewC mayNewSd setNewSd minIn_eq maxIn_eq
structure CrAt (w : World) (n : Nat) (SA : Option Addr) (sc : Nat) (gs : Option Nat) (s : DS) (keep : List Bool) (tn cut : Int) (j : Nat) (wr : World) : Prop where
  ow : Ow wr tSec 64 SA n sc ((crashTo keep tn cut s.sf s.row j).map bn) gs
  fr : Fr (fun k => gs = some k) w wr
/-- A sector's store, behind a draw, in the midst of the loop: the relation at the next round. -/
theorem CrAt.put {w wr w1 : World} {n sc b o : Nat} {s : DS} {keep : List Bool} {tn cut : Int} {j k : Nat} {d x : List Nat} (h : CrAt w n (some ⟨b, o, none⟩) sc (some b) s keep tn cut j wr) (hr : s.row[j]? = some (k, d)) (hk : k < n) (hx : x.length = 64)
    (he : crash1 keep tn cut (crashTo keep tn cut s.sf s.row j) j (k, d) = putSec (crashTo keep tn cut s.sf s.row j) k x) (hf : Fr (fun _ => False) wr w1) :
    CrAt w n (some ⟨b, o, none⟩) sc (some b) s keep tn cut (j + 1) (w1.setCells b (o + k * 64) (x.map bn)) := by
  have hO : Ow w1 tSec 64 (some ⟨b, o, none⟩) n sc ((crashTo keep tn cut s.sf s.row j).map bn) (some b) := h.ow.fr hf (fun _ _ => id)
  have e : crashTo keep tn cut s.sf s.row (j + 1) = putSec (crashTo keep tn cut s.sf s.row j) k x := by
    show crash1 keep tn cut _ j (s.row.getD j (0, [])) = _
    rw [List.getD_eq_getElem?_getD, hr]
    exact he
  refine ⟨?_, ?_⟩
  · rw [e, putSec_map _ _ _ hx]
    refine hO.setRow (k * 64) (x.map bn) ?_
    rw [List.length_map, hx]
    have := Nat.mul_le_mul_right 64 (show k + 1 ≤ n by omega)
    omega
  · exact (h.fr.trans (hf.weak _)).trans ((fr_setCells b (x.map bn) _ w1).mono fun x _ e => by rw [e])
theorem CrAt.same {w wr w1 : World} {n sc : Nat} {s : DS} {keep : List Bool} {tn cut : Int} {j : Nat} {r : Nat × List Nat} {A : Option Addr} {g : Option Nat} (h : CrAt w n A sc g s keep tn cut j wr) (hr : s.row[j]? = some r)
    (he : crash1 keep tn cut (crashTo keep tn cut s.sf s.row j) j r = crashTo keep tn cut s.sf s.row j) (hf : Fr (fun _ => False) wr w1) :
    CrAt w n A sc g s keep tn cut (j + 1) w1 := by
  have e : crashTo keep tn cut s.sf s.row (j + 1) = crashTo keep tn cut s.sf s.row j := by
    show crash1 keep tn cut _ j (s.row.getD j (0, [])) = _
    rw [List.getD_eq_getElem?_getD, hr]
    exact he
  refine ⟨?_, ?_⟩
  · rw [e]; exact h.ow.fr hf (fun _ _ => id)
  · exact h.fr.trans (hf.weak _)
set_option maxHeartbeats 4000000 in
set_option maxRecDepth 8000 in
theorem crash_arg {w : World} {p n : Nat} {F : Nat → Prop} {s : DS} (h : DI w p n F s) (KA : Option Addr) (kn kc : Nat) (keep : List Bool) (hkn : kn = keep.length) (hK : Sl w 1 KA kn (keep.map .bool)) (tn cut : Int) (hap : 0 < kn → ∀ b, (∃ o, KA = some ⟨b, o, none⟩) → ¬ F b) :
    Calls Try.prog 19 #[.pointer (some ⟨p, 0, none⟩), .slice KA kn kc, .int .i64 tn, .int .i64 cut] w fun e w' => e = .returned (.tuple #[]) ∧ DOut w p n F (s.crash keep tn cut) w' := by
  obtain ⟨SA, sc, gs, RA, rc, gr, mb, h, rfl⟩ := h
  have hn2 := h.ok.n2
  have c1 : w.cell? ⟨p, 1, none⟩ = some (.slice RA s.row.length rc) := h.bl.cell' rfl
  obtain ⟨m, hm⟩ : ∃ m, s.row.length = m := ⟨_, rfl⟩
  have hm63 := h.ok.c1
  have hm64 := h.ok.c2
  rw [hm] at c1 hm63
  have H := hide h
  have Hm := hide hm
  have HK := hide hK
  have Hap := hide hap
  have Hkn := hide hkn
  have hmm : m ≤ 9000000000000000000 := by omega
  clear h hm hK hap hkn hm63 hm64
  go_enter Try.func19, Try.ntmps19
  go_wp2_with fail
  go_loopw [18] (fun i wr => ∃ j : Nat, j ≤ m ∧ i = .int .i64 (j : Int) ∧ Hid (CrAt w n SA sc gs s keep tn cut j wr)) (fun i _ => m - (intOf i).toNat)
  case atStart => exact ⟨0, Nat.zero_le _, rfl, ⟨H.out.safe, Fr.refl _ _⟩⟩
  case round =>
    obtain ⟨j, hj, rfl, hS⟩ := hrel
    by_cases hlt : j < m
    · have hjl : j < s.row.length := by rw [Hm.out]; exact hlt
      obtain ⟨r, hr⟩ : ∃ r, s.row[j]? = some r := ⟨_, List.getElem?_eq_getElem hjl⟩
      have hrow := H.out.rows
      rw [Hm.out] at hrow
      obtain ⟨b2, o2, rfl, rfl, -, hr2⟩ := row_at hrow (fun r hr => (H.out.ok.row r hr).2) j r hr
      obtain ⟨hk, hd⟩ := H.out.ok.row r (List.mem_of_getElem? hr)
      obtain ⟨k, d⟩ := r
      simp only at hk hd
      have hb2 : b2 < w.heap.size := H.out.rows.lt b2 rfl
      have f1 := hS.out.fr
      have hg2 : ¬ gs = some b2 := fun e => H.out.nsr e rfl
      have hh1 : HasRow wr b2 (o2 + j * 65) 65 := ((HasRow.of hr2 (wcells_len hd)).fr (by omega) f1 hg2).1
      have hh2 : rowAt wr b2 (o2 + j * 65) 65 = .int .i64 (k : Int) :: d.map bn := ((HasRow.of hr2 (wcells_len hd)).fr (by omega) f1 hg2).2.trans (rowAt_of (cs := wcells (k, d)) hr2 (wcells_len hd))
      have hsl := crashTo_len (keep := keep) (tn := tn) (cut := cut) H.out.ok.len H.out.ok.row j (by omega)
      obtain ⟨b, o, rfl, rfl, hsec, hsr, ht⟩ := safe_at hS.out.ow k hk
      obtain ⟨sec, hsecd⟩ : ∃ sec, ((crashTo keep tn cut s.sf s.row j).drop (k * 64)).take 64 = sec := ⟨_, rfl⟩
      rw [hsecd] at hsec hsr
      have c0 : wr.cell? ⟨p, 0, none⟩ = some (.slice (some ⟨b, o, none⟩) n sc) := (f1.cell (World.block_lt_of_cell? w _ (H.out.bl.cell' (i := 0) rfl)) H.out.nps).trans (H.out.bl.cell' rfl)
      have hone := bn_one d
      have hr65 : Row65 (.int .i64 (k : Int) :: d.map bn) := ⟨by simp [hd], by
        intro u hu
        rcases List.mem_cons.1 hu with rfl | hu
        · rfl
        · exact hone u hu⟩
      have hr64 : Row64 (d.map bn) := ⟨by simpa using hd, hone⟩
      have hs64 : Row64 (sec.map bn) := ⟨by simpa using hsec, bn_one sec⟩
      obtain ⟨ds, hds⟩ : ∃ ds, d.map bn = ds := ⟨_, rfl⟩
      rw [hds] at hh2 hr65 hr64
      have i0 : (0 : Int) ≤ (j : Int) := by omega
      have i1 : (j : Int) < (m : Int) := by omega
      have i2 : (0 : Int) ≤ (k : Int) := by omega
      have i3 : (k : Int) < (n : Int) := by omega
      have Hd := hide hds
      have Hr := hide hr
      have Hf1 := hide f1
      have Hdl := hide hd
      have Hsec := hide hsec
      have Hsecd := hide hsecd
      -- the world behind the round's own variable
      have hnb : Bl (wr.alloc (.cells (.int .i64 (k : Int) :: ds).toArray 75)) wr.heap.size 75 (.int .i64 (k : Int) :: ds).toArray := Bl.new _ _ _
      have fa : Fr (fun _ => False) wr (wr.alloc (.cells (.int .i64 (k : Int) :: ds).toArray 75)) := Fr.alloc (Fr.refl (fun _ => False) wr) _
      have hwj : IntKind.i64.wrap ((j : Int) + 1) = ((j + 1 : Nat) : Int) := by rw [IntWalk.i64_in _ (by omega)]; omega
      have hmay : ∀ w1, Fr (fun _ => False) wr w1 → MayRow w1 b (o + k * 64) 64 := fun w1 hf j hj => by
        obtain ⟨q1, q2⟩ := ht j hj
        obtain ⟨u, hu⟩ := Option.isSome_iff_exists.1 q1
        have hlt := World.block_lt_of_cell? wr _ hu
        exact ⟨by rw [hf.cell (p := ⟨b, o + k * 64 + j, none⟩) hlt id]; exact q1, by rw [hf.frozen (p := ⟨b, o + k * 64 + j, none⟩) hlt id]; exact q2⟩
      have hsafe : ∀ w1, Fr (fun _ => False) wr w1 → w1.cell? ⟨p, 0, none⟩ = some (.slice (some ⟨b, o, none⟩) n sc) ∧ HasRow w1 b (o + k * 64) 64 ∧ rowAt w1 b (o + k * 64) 64 = sec.map bn := fun w1 hf => by
        have q := HasRow.of (n := 64) hsr (by rw [List.length_map]; exact hsec)
        have q2 := rowAt_of (n := 64) hsr (by rw [List.length_map]; exact hsec)
        exact ⟨(hf.cell (World.block_lt_of_cell? wr _ c0) id).trans c0, (q.fr (by omega) hf id).1, (q.fr (by omega) hf id).2.trans q2⟩
      have hvar : ∀ w1, Bl w1 wr.heap.size 75 (.int .i64 (k : Int) :: ds).toArray → w1.cell? ⟨wr.heap.size, 0, none⟩ = some (.int .i64 (k : Int)) ∧ HasRow w1 wr.heap.size 1 64 ∧ rowAt w1 wr.heap.size 1 64 = ds := fun w1 hb => by
        have hh : w1.rangeAt wr.heap.size 1 ds := fun j v hv => by
          rw [hb.cell, Nat.add_comm]; simpa using hv
        exact ⟨hb.cell' rfl, HasRow.of hh hr64.1, rowAt_of hh hr64.1⟩
      have Hmay := hide hmay
      have Hsafe := hide hsafe
      have Hvar := hide hvar
      have Fa := hide fa
      have Hnb := hide hnb
      clear hjl hrow hr2 hone hds hr f1 hd hn2 c1 c0 hmay hsafe hvar fa hnb hsec hsecd hsr ht hsl
      by_cases htn : (j : Int) = tn
      · subst htn
        have hcl := clamp_eq cut
        obtain ⟨cn, hcn⟩ : ∃ cn, clampN cut = cn := ⟨_, rfl⟩
        rw [hcn] at hcl
        obtain ⟨mc, hmc⟩ : ∃ mc, lowI cut 64 = mc := ⟨_, rfl⟩
        obtain ⟨hc1, hc2⟩ := hcl
        rw [hmc] at hc1
        have Hcn := hide hcn
        have hc3 : (cn : Int) ≤ 64 := by omega
        clear hcn
        go_wp2_with fail
        -- region 5
        obtain ⟨wa, Hwa⟩ : ∃ wa, Hid (wa = (wr.alloc (.cells (.int .i64 (k : Int) :: ds).toArray 75))) := ⟨_, rfl⟩
        have fw1 : Fr (fun _ => False) wr wa := by rw [Hwa.out]; exact Fa.out
        have bw1 : Bl wa wr.heap.size 75 (.int .i64 (k : Int) :: ds).toArray := by rw [Hwa.out]; exact Hnb.out
        have bw2 : Bl (wa.alloc (.cells secZ.toArray 73)).drew wr.heap.size 75 (.int .i64 (k : Int) :: ds).toArray := (bw1.alloc _).drew
        have fw2 : Fr (fun _ => False) wr (wa.alloc (.cells secZ.toArray 73)).drew := (fw1.alloc _).drew
        obtain ⟨k1, k2, k3⟩ := Hvar.out wa bw1
        obtain ⟨k4, k5, k6⟩ := Hsafe.out wa fw1
        obtain ⟨l1, l2, l3⟩ := Hvar.out _ bw2
        obtain ⟨l4, l5, l6⟩ := Hsafe.out _ fw2
        have k5' : HasRow wa.drew b (o + k * 64) 64 := k5
        have k6' : rowAt wa.drew b (o + k * 64) 64 = sec.map bn := k6
        have Fw1 := hide fw1
        have Bw1 := hide bw1
        rw [← Hwa.out]
        clear fw1 bw1 fw2 bw2 hh1 hh2
        go_region_law fail
        all_goals (
          obtain ⟨wb, Hwb⟩ : ∃ wb, Hid (wb = (wa.alloc (.cells (sec.map bn).toArray 73)).drew) := ⟨_, rfl⟩
          have fb : Fr (fun _ => False) wr wb := by rw [Hwb.out]; exact (Fw1.out.alloc _).drew
          have bb1 : Bl wb wr.heap.size 75 (.int .i64 (k : Int) :: ds).toArray := by rw [Hwb.out]; exact (Bw1.out.alloc _).drew
          have bb2 : Bl wb wa.heap.size 73 (sec.map bn).toArray := by rw [Hwb.out]; exact (Bl.new wa _ _).drew
          rw [← Hwb.out]
          have Fb := hide fb
          have Bb1 := hide bb1
          have Bb2 := hide bb2
          clear l1 l2 l3 l4 l5 l6 k1 k2 k3 k4 k5 k6 k5' k6' fb bb1 bb2
          go_wp2_with fail
          refine region_tail 6 (by kernel_rfl) (by kernel_rfl) ?_
          intro w1 Hw1 hcw1 hzw1 hsw1
          have b1 : Bl w1 wr.heap.size 75 (.int .i64 (k : Int) :: ds).toArray := by rw [Hw1.out]; exact Bb1.out.drew
          have b2 : Bl w1 wa.heap.size 73 (sec.map bn).toArray := by rw [Hw1.out]; exact Bb2.out.drew
          have f1 : Fr (fun _ => False) wr w1 := by rw [Hw1.out]; exact Fb.out.drew
          have B1 := hide b1
          have B2 := hide b2
          have F1 := hide f1
          clear hcw1 hzw1 hsw1 b1 b2 f1
          simp only [List.take_succ_cons, List.take_zero, List.drop_succ_cons, List.drop_zero]
          repeat still_step
          refine wpStill_nil ?_
          have hcl0 : (ds.take cn).length = Nat.min 64 cn := by rw [List.length_take, hr64.1]; exact Nat.min_comm ..
          have hcl1 : (ds.take cn).length = cn := by rw [List.length_take, hr64.1]; omega
          refine wpList_copy_into rfl _ _ _ _ rfl 5 Try.underlying34 u8size wa.heap.size 0 cn 64 rfl ⟨wr.heap.size, 1, none⟩ 64 64 rfl (ds.take cn) hcl0 ?_ ?_ ?_ ?_
          · intro i v hv
            have hi : i < cn := by have := (List.getElem?_eq_some_iff.1 hv).1; omega
            rw [List.getElem?_take_of_lt hi] at hv
            rw [Addr.add_lit]
            rw [B1.out.cell, Nat.add_comm]
            simpa using hv
          · intro i hi
            rw [hcl1] at hi
            rw [Nat.zero_add]
            exact ⟨by rw [B2.out.cell]; have := Hsec.out; simp; omega, B2.out.free i⟩
          · intro v hv
            exact hr64.2 v (List.mem_of_mem_take hv)
          obtain ⟨wc, Hwc⟩ : ∃ wc, Hid (wc = w1.setCells wa.heap.size 0 (ds.take cn)) := ⟨_, rfl⟩
          have hwa1 : wa.heap.size ≤ wb.heap.size := by rw [Hwb.out]; simp
          have hwr : wr.heap.size < wa.heap.size := by rw [Hwa.out]; simp
          have hfs : Fr (fun x => x = wa.heap.size) w1 wc := by rw [Hwc.out]; exact fr_setCells _ _ _ _
          obtain ⟨W, hW⟩ : ∃ W, W = d.take cn ++ sec.drop cn := ⟨_, rfl⟩
          have hWl : W.length = 64 := by have h1 := Hdl.out; have h2 := Hsec.out; rw [hW, List.length_append, List.length_take, List.length_drop]; omega
          have c1 : Bl wc wr.heap.size 75 (.int .i64 (k : Int) :: ds).toArray := B1.out.fr hfs (by omega)
          have c2 : Bl wc wa.heap.size 73 (W.map bn).toArray := by
            have := bl_setCells (cs := ds.take cn) B2.out (by have := Hsec.out; rw [List.length_map]; omega)
            rw [hcl1] at this
            rw [Hwc.out, hW, List.map_append, List.map_take, List.map_drop, Hd.out]
            exact this
          have fc : Fr (fun _ => False) wr wc := F1.out.comp hfs (fun i hi e => by omega)
          rw [← Hwc.out]
          have C1 := hide c1
          have C2 := hide c2
          have Fc := hide fc
          have HW := hide hW
          have HWl := hide hWl
          have HrW : Row64 (W.map bn) := ⟨by rw [List.length_map]; exact hWl, bn_one W⟩
          have Hsz : Hid (wr.heap.size < wa.heap.size) := hwr
          clear hfs c1 c2 fc hcl0 hcl1 hwa1 hwr hW hWl
          have hgd : Try.prog.eqGuardType Try.prog.depth 73 = false := by kernel_rfl
          have hes : crash1 keep (j : Int) cut (crashTo keep (j : Int) cut s.sf s.row j) j (k, d) = putSec (crashTo keep (j : Int) cut s.sf s.row j) k W := by
            unfold crash1 torn
            rw [if_pos rfl, Hcn.out, Hsecd.out, HW.out]
          have Hes := hide hes
          clear hes
          by_cases hWs : W = sec
          · have Heq : Hid (∀ w2, (Op.equalIn 10000 73 (.agg (W.map bn).toArray) (.agg (sec.map bn).toArray)).run Try.prog w2 = .ok true w2) := fun w2 => by rw [sec_eq w2 W sec HWl.out Hsec.out, decide_eq_true hWs]
            have HWs := hide hWs
            clear hWs
            go_wp2_with fail
            refine region_tail 9 (by kernel_rfl) (by kernel_rfl) ?_
            intro w2 Hw2 hcw2 hzw2 hsw2
            have d1 : Bl w2 wr.heap.size 75 (.int .i64 (k : Int) :: ds).toArray := by rw [Hw2.out]; exact C1.out.drew
            have d0 : Bl w2 wa.heap.size 73 (W.map bn).toArray := by rw [Hw2.out]; exact C2.out.drew
            have d2 : w2.rangeAt wa.heap.size 0 (W.map bn) := fun i v hv => by rw [d0.cell, Nat.zero_add]; simpa using hv
            have d3 : Fr (fun _ => False) wr w2 := by rw [Hw2.out]; exact Fc.out.drew
            obtain ⟨k1, k2, k3⟩ := Hvar.out w2 d1
            obtain ⟨k4, k5, k6⟩ := Hsafe.out w2 d3
            have k7 : HasRow w2 wa.heap.size 0 64 := HasRow.of (n := 64) d2 HrW.1
            have k8 : rowAt w2 wa.heap.size 0 64 = W.map bn := rowAt_of (n := 64) d2 HrW.1
            have k9 := Heq.out w2
            have D3 := hide d3
            have D1 := hide d1
            have D0 := hide d0
            clear hcw2 hzw2 hsw2 d1 d2 d3 d0
            simp only [List.take_succ_cons, List.take_zero, List.drop_succ_cons, List.drop_zero]
            repeat still_step
            refine wpStill_nil ?_
            go_wp2_with fail
            refine ⟨⟨j + 1, by omega, by first | rfl | go_num, ?_⟩, by simp [intOf]; omega⟩
            have hself := putSec_self (crashTo_len (keep := keep) (tn := (j : Int)) (cut := cut) H.out.ok.len H.out.ok.row j (by have := Hm.out; omega)) hk
            rw [Hsecd.out, ← HWs.out] at hself
            exact hS.out.same Hr.out (Hes.out.trans hself) D3.out
          · have Heq : Hid (∀ w2, (Op.equalIn 10000 73 (.agg (W.map bn).toArray) (.agg (sec.map bn).toArray)).run Try.prog w2 = .ok false w2) := fun w2 => by rw [sec_eq w2 W sec HWl.out Hsec.out, decide_eq_false hWs]
            clear hWs
            go_wp2_with fail
            refine region_tail 9 (by kernel_rfl) (by kernel_rfl) ?_
            intro w2 Hw2 hcw2 hzw2 hsw2
            have d1 : Bl w2 wr.heap.size 75 (.int .i64 (k : Int) :: ds).toArray := by rw [Hw2.out]; exact C1.out.drew
            have d0 : Bl w2 wa.heap.size 73 (W.map bn).toArray := by rw [Hw2.out]; exact C2.out.drew
            have d2 : w2.rangeAt wa.heap.size 0 (W.map bn) := fun i v hv => by rw [d0.cell, Nat.zero_add]; simpa using hv
            have d3 : Fr (fun _ => False) wr w2 := by rw [Hw2.out]; exact Fc.out.drew
            obtain ⟨k1, k2, k3⟩ := Hvar.out w2 d1
            obtain ⟨k4, k5, k6⟩ := Hsafe.out w2 d3
            have k7 : HasRow w2 wa.heap.size 0 64 := HasRow.of (n := 64) d2 HrW.1
            have k8 : rowAt w2 wa.heap.size 0 64 = W.map bn := rowAt_of (n := 64) d2 HrW.1
            have k9 := Heq.out w2
            have D3 := hide d3
            have D1 := hide d1
            have D0 := hide d0
            clear hcw2 hzw2 hsw2 d1 d2 d3 d0
            simp only [List.take_succ_cons, List.take_zero, List.drop_succ_cons, List.drop_zero]
            repeat still_step
            refine wpStill_nil ?_
            go_wp2_with fail
            refine region_tail 8 (by kernel_rfl) (by kernel_rfl) ?_
            intro w3 Hw3 hcw3 hzw3 hsw3
            have d1 : Bl w3 wr.heap.size 75 (.int .i64 (k : Int) :: ds).toArray := by rw [Hw3.out]; exact D1.out.drew
            have d0 : Bl w3 wa.heap.size 73 (W.map bn).toArray := by rw [Hw3.out]; exact D0.out.drew
            have d2 : w3.rangeAt wa.heap.size 0 (W.map bn) := fun i v hv => by rw [d0.cell, Nat.zero_add]; simpa using hv
            have d3 : Fr (fun _ => False) wr w3 := by rw [Hw3.out]; exact D3.out.drew
            obtain ⟨l1, l2, l3⟩ := Hvar.out w3 d1
            obtain ⟨l4, l5, l6⟩ := Hsafe.out w3 d3
            have l7 : HasRow w3 wa.heap.size 0 64 := HasRow.of (n := 64) d2 HrW.1
            have l8 : rowAt w3 wa.heap.size 0 64 = W.map bn := rowAt_of (n := 64) d2 HrW.1
            have l9 := Hmay.out w3 d3
            have E3 := hide d3
            clear hcw3 hzw3 hsw3 d1 d2 d3 d0
            simp only [List.take_succ_cons, List.take_zero, List.drop_succ_cons, List.drop_zero]
            repeat still_step
            refine wpStill_nil ?_
            go_wp2_with fail
            refine ⟨⟨j + 1, by omega, by first | rfl | go_num, ?_⟩, by simp [intOf]; omega⟩
            exact hS.out.put Hr.out hk HWl.out Hes.out E3.out)
      · have ht1 : ¬ (j : Int) = tn := htn
        -- the facts at the round's own world
        by_cases hkj : j < kn ∧ keep.getD j false = true
        · obtain ⟨hj1, hj2⟩ := hkj
          have hkl : j < keep.length := by rw [← Hkn.out]; exact hj1
          have hbn : (keep.map Value.bool)[j]? = some (.bool true) := by
            rw [List.getElem?_map, List.getElem?_eq_getElem hkl]
            rw [List.getD_eq_getElem?_getD, List.getElem?_eq_getElem hkl] at hj2
            simpa using hj2
          obtain ⟨kb, ko, rfl, hkc⟩ := HK.out.at_ hbn
          have hkb : ¬ some b = some kb := fun e => Hap.out (by omega) kb ⟨ko, rfl⟩ (.inr (.inl e))
          have hkc2 := (Hf1.out.cell (World.block_lt_of_cell? w _ hkc) hkb).trans hkc
          have hkc3 := (Fa.out.cell (World.block_lt_of_cell? wr _ hkc2) id).trans hkc2
          have i5 : (j : Int) < (kn : Int) := by omega
          have hes : crash1 keep tn cut (crashTo keep tn cut s.sf s.row j) j (k, d) = putSec (crashTo keep tn cut s.sf s.row j) k d := by
            unfold crash1
            rw [if_neg ht1, if_pos hj2]
          have Hes := hide hes
          clear hes hkc hkc2 hbn hj2 htn
          go_wp2_with fail
          refine region_tail 9 (by kernel_rfl) (by kernel_rfl) ?_
          intro w2 Hw2 hcw2 hzw2 hsw2
          have d1 : Bl w2 wr.heap.size 75 (.int .i64 (k : Int) :: ds).toArray := by rw [Hw2.out]; exact Hnb.out.drew
          have d3 : Fr (fun _ => False) wr w2 := by rw [Hw2.out]; exact Fa.out.drew
          obtain ⟨l1, l2, l3⟩ := Hvar.out w2 d1
          obtain ⟨l4, l5, l6⟩ := Hsafe.out w2 d3
          have l9 := Hmay.out w2 d3
          have E3 := hide d3
          clear hcw2 hzw2 hsw2 d1 d3 hkc3
          simp only [List.take_succ_cons, List.take_zero, List.drop_succ_cons, List.drop_zero]
          repeat still_step
          refine wpStill_nil ?_
          go_wp2_with fail
          refine ⟨⟨j + 1, by omega, by first | rfl | go_num, ?_⟩, by simp [intOf]; omega⟩
          have := hS.out.put Hr.out hk Hdl.out Hes.out E3.out
          rw [Hd.out] at this
          exact this
        · have hes : crash1 keep tn cut (crashTo keep tn cut s.sf s.row j) j (k, d) = crashTo keep tn cut s.sf s.row j := by
            unfold crash1
            rw [if_neg ht1, if_neg]
            intro e
            refine hkj ⟨?_, e⟩
            rw [Hkn.out]
            apply Nat.lt_of_not_le
            intro hle
            rw [List.getD_eq_getElem?_getD, List.getElem?_eq_none hle] at e
            cases e
          have hfin := hide (hS.out.same Hr.out hes Fa.out)
          by_cases hj1 : j < kn
          · have hkl : j < keep.length := by rw [← Hkn.out]; exact hj1
            have hbn : (keep.map Value.bool)[j]? = some (.bool false) := by
              have hj2 : ¬ keep.getD j false = true := fun e => hkj ⟨hj1, e⟩
              rw [List.getElem?_map, List.getElem?_eq_getElem hkl]
              rw [List.getD_eq_getElem?_getD, List.getElem?_eq_getElem hkl] at hj2
              simpa using hj2
            obtain ⟨kb, ko, rfl, hkc⟩ := HK.out.at_ hbn
            have hkb : ¬ some b = some kb := fun e => Hap.out (by omega) kb ⟨ko, rfl⟩ (.inr (.inl e))
            have hkc2 := (Hf1.out.cell (World.block_lt_of_cell? w _ hkc) hkb).trans hkc
            have hkc3 := (Fa.out.cell (World.block_lt_of_cell? wr _ hkc2) id).trans hkc2
            have i5 : (j : Int) < (kn : Int) := by omega
            clear hes hkc hkc2 hbn hkj htn
            go_wp2_with fail
            exact ⟨⟨j + 1, by omega, by first | rfl | go_num, hfin.out⟩, by simp [intOf]; omega⟩
          · have i5 : ¬ (j : Int) < (kn : Int) := by omega
            clear hes hkj htn
            go_wp2_with fail
            exact ⟨⟨j + 1, by omega, by first | rfl | go_num, hfin.out⟩, by simp [intOf]; omega⟩
    · obtain rfl : j = m := by omega
      have hL : DAt wr p n SA sc gs RA rc gr mb { s with sf := crashTo keep tn cut s.sf s.row s.row.length } := by
        have := hS.out.ow
        rw [← Hm.out] at this
        exact H.out.laid this (crashTo_len H.out.ok.len H.out.ok.row _ (Nat.le_refl _)) hS.out.fr
      have hFr := hide hS.out.fr
      have hsz := hS.out.fr.size
      clear hS
      go_wp2_with fail
      refine (rest_any hL).mono ?_
      rintro e w2 ⟨rfl, hR, hf2⟩
      have HR := hide hR
      have Hf2 := hide hf2
      have c3 : w2.cell? ⟨p, 3, none⟩ = some (.int .i64 s.fuse) := hR.bl.cell' rfl
      have z3 := hR.bl.free 3
      clear hR hf2 hL
      go_wp2_with fail
      go_end0
      have hsz2 := Hf2.out.size
      have hF : Fr (fun k => k = p) w2 (w2.setCell ⟨p, 3, none⟩ (.int .i64 (-1))) := (Fr.refl (fun k => k = p) w2).setAt _
      have f12 : Fr (dfoot p gs gr mb) w w2 := (hFr.out.mono fun x _ e => .inr (.inl e)).trans (Hf2.out.mono fun x _ e => e.elim (fun e => .inl e) (fun e => .inr (.inr (.inr e))))
      have f3 : Fr (dfoot p gs gr mb) w2 (w2.setCell ⟨p, 3, none⟩ (.int .i64 (-1))) := hF.mono fun x _ e => .inl e
      have hr := HR.out
      have e5 : DI (w2.setCell ⟨p, 3, none⟩ (.int .i64 (-1))) p n (dfoot p gs none mb) (s.crash keep tn cut) := ⟨SA, sc, gs, none, 0, none, mb, ⟨hr.bl.set 3 _, hr.safe.fr hF (fun b e e' => hr.nps (by rw [e, e'])), Ow.nil_ _ _ _, hr.last.fr hF hr.nmp, ⟨hr.ok.n1, hr.ok.n2, hr.ok.len, fun r hr => (by cases hr), Int.le_refl _, by show (-1 : Int) ≤ _; omega, Nat.zero_le _, hr.ok.c2, hr.ok.c3⟩⟩, rfl⟩
      refine ⟨rfl, _, e5, f12.trans f3, ?_⟩
      rintro x hx (e | e | e | e)
      · exact .inl e
      · exact .inr (.inl e)
      · cases e
      · exact .inr (.inr (.inr e))
theorem crash_any {w : World} {p n : Nat} {F : Nat → Prop} {s : DS} (h : DI w p n F s) (KA : Option Addr) (kn kc : Nat) (keep : List Bool) (hkn : kn = keep.length) (hK : Sl w 1 KA kn (keep.map .bool)) (tn cut : Int) (hap : ∀ b, (∃ o, KA = some ⟨b, o, none⟩) → ¬ F b) :
    Calls Try.prog 19 #[.pointer (some ⟨p, 0, none⟩), .slice KA kn kc, .int .i64 tn, .int .i64 cut] w fun e w' => e = .returned (.tuple #[]) ∧ DOut w p n F (s.crash keep tn cut) w' := crash_arg h KA kn kc keep hkn hK tn cut (fun _ => hap)
#print axioms crash_any
end Go.Proofs.Ythcklgelbckffaa
