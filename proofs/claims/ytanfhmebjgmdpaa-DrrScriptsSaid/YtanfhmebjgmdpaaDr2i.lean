/-
  bazaar/drr.Drr[int]: serve.
-/
import Derived.Test.YtanfhmebjgmdpaaDr1i
namespace Go.Proofs.Ytanfhmebjgmdpaa.Qi
open Go.RowKit
set_option linter.unusedVariables false
attribute [local go_sem ↓] storeJ_

section
variable {d L : Nat} {D : Int} {s : DS X}
/-- A line that was served. -/
def served (l : LN X) (x : X) (t : List X) : LN X := { l with things := t, df := if t = [] then 0 else l.df - x.2 }
set_option maxHeartbeats 1000000 in
set_option maxRecDepth 20000 in
theorem serve_none (w : World) (h : DrrAt w d L D s) (i : Nat) (l : LN X) (hl : s.lines[i]? = some l) (hx : ∀ x t, l.things = x :: t → l.df < x.2) :
    Calls Try.prog 82 #[.pointer (some ⟨L, i * 3, none⟩)] w fun e w' => e = .returned (.tuple #[tv zeroX, .bool false]) ∧ Fr (fun _ => False) w w' := by
  have hm := List.mem_of_getElem? hl
  obtain ⟨w0, hw0⟩ : ∃ w0, w = w0 := ⟨_, rfl⟩
  have hF0 : Hid (Fr (fun _ => False) w w0) := by show Fr _ _ _; rw [← hw0]; exact (Fr.refl _ _)
  have h0 := h.quiet hF0.out
  have c0 := (h0.cellp hl).1
  have c1 := (h0.cellp hl).2.1
  have hI := h0.ring l hm
  have kst : Hid (∀ (w1 : World) (x : X), ∃ wx, storeIn Try.prog 99 (.pointer (some ⟨w1.heap.size, 0, none⟩)) (.agg (enc x).toArray) (w1.alloc (.cells #[.int .i64 0, .int .i64 0] 99)) = .ok () wx ∧ Bl wx w1.heap.size tJob (enc x).toArray ∧ Fr (fun _ => False) w1 wx) := fun w1 x =>
    ⟨_, (Bl.new w1 tJob (enc zeroX).toArray).storeIn (P := Try.prog) (ty := tJob) x (enc_len x) (enc_one x) rfl infoJob, (Bl.new w1 tJob (enc zeroX).toArray).setRow _, Fr.setRow ((Fr.refl _ _).alloc _) (.inr (Nat.le_refl _)) _⟩
  rcases hthings : l.things with _ | ⟨x, t⟩
  · rw [hthings] at hI
    have hat := atR_out w0 hI 0 (.inr (by simp))
    clear h h0 hl hm hI hthings hx
    go_enter Try.func82, Try.ntmps82
    go_wp2_with fail
    (try rw [hw0])
    clear hw0
    go_wp2_with fail
    refine hat.mono ?_
    rintro e w1 ⟨rfl, hf1⟩
    obtain ⟨wx, k1, hBx, hfx⟩ := kst.out w1 zeroX
    have HBx := hide hBx
    have HF1 := hide (hF0.out.trans (hf1.trans hfx))
    clear hat hf1 hfx c0 c1 hBx
    go_wp2_with fail
    go_quiet (fail)
    go_wp2_with fail
    go_ret2
    exact ⟨rfl, HF1.out.drewN nq⟩
  · rw [hthings] at hI
    have hat := atR_in w0 hI 0 x rfl
    have hdf := hx x t hthings
    have c1x : Hid (∀ w', Fr (fun _ => False) w0 w' → w'.cell? ⟨L, i * 3 + 1, none⟩ = some (.int .i64 l.df)) := fun w' hf => (hf.cell (World.block_lt_of_cell? w0 _ c1) id).trans c1
    clear h h0 hl hm hI hthings hx
    go_enter Try.func82, Try.ntmps82
    go_wp2_with fail
    (try rw [hw0])
    clear hw0
    go_wp2_with fail
    refine hat.mono ?_
    rintro e w1 ⟨rfl, hf1⟩
    obtain ⟨wx, k1, hBx, hfx⟩ := kst.out w1 x
    have d1 := c1x.out wx (hf1.trans hfx)
    have d2 : wx.cell? ⟨w1.heap.size, 1, none⟩ = some (.int .i64 x.2) := hBx.cell' rfl
    have HBx := hide hBx
    have HF1 := hide (hF0.out.trans (hf1.trans hfx))
    clear hat hf1 hfx c0 c1 hBx
    go_wp2_with fail
    go_quiet (fail)
    go_wp2_with fail
    go_ret2
    exact ⟨rfl, HF1.out.drewN nq⟩
/-- The server behind a service. -/
theorem served_end {w w' : World} (h : DrrAt w d L D s) {i : Nat} {l : LN X} (hl : s.lines[i]? = some l) {x : X} {t : List X} (hx : l.things = x :: t) (hc : x.2 ≤ l.df) (hf : Fr (fun y => qfoot l.p l.g y ∨ y = L) w w') (hI : RI w' l.p l.g s.room t)
    {A : Array Value} (hB : Bl w' L tLine A) (hA : A = if t = [] then (((cellsOf (lcells xc) s.lines).toArray.setIfInBounds (i * 3 + 1) (.int .i64 (l.df - x.2))).setIfInBounds (i * 3 + 2) (.int .i64 (csum xc t))).setIfInBounds (i * 3 + 1) (.int .i64 0) else (((cellsOf (lcells xc) s.lines).toArray.setIfInBounds (i * 3 + 1) (.int .i64 (l.df - x.2))).setIfInBounds (i * 3 + 2) (.int .i64 (csum xc t)))) :
    DrrAt w' d L D (s.put i (served l x t)) ∧ Fr (drfoot d L s) w w' := by
  have hm := List.mem_of_getElem? hl
  have hi : i < s.lines.length := (List.getElem?_eq_some_iff.1 hl).1
  have hco := h.ok.co l hm
  have hdf := h.ok.df l hm
  have hcx : 1 ≤ x.2 ∧ x.2 ≤ 8 := hco x (by rw [hx]; simp)
  have hd1 := h.ok.d1
  have g1 := List.getElem?_set_self (l := s.lines) (i := i) (a := ({ l with df := l.df - x.2 } : LN X)) hi
  have e2 := lset2 (cost := xc) (s.lines.set i { l with df := l.df - x.2 }) i { l with df := l.df - x.2 } { l with df := l.df - x.2, things := t } g1 rfl rfl
  have g2 := List.getElem?_set_self (l := s.lines) (i := i) (a := ({ l with df := l.df - x.2, things := t } : LN X)) hi
  have e3 := lset1 (cost := xc) (s.lines.set i { l with df := l.df - x.2, things := t }) i { l with df := l.df - x.2, things := t } g2 0
  rw [lset1 s.lines i l hl] at hA
  rw [List.set_set] at e2 e3
  have hA2 : A = (cellsOf (lcells xc) (s.lines.set i (served l x t))).toArray := by
    rw [hA]
    by_cases ht : t = []
    · rw [if_pos ht, show (Value.int .i64 (csum xc t)) = .int .i64 (csum xc ({ l with df := l.df - x.2, things := t } : LN X).things) from rfl, e2, e3]
      have : served l x t = { l with things := t, df := 0 } := by unfold served; rw [if_pos ht]
      rw [this]
    · rw [if_neg ht, show (Value.int .i64 (csum xc t)) = .int .i64 (csum xc ({ l with df := l.df - x.2, things := t } : LN X).things) from rfl, e2]
      have : served l x t = { l with things := t, df := l.df - x.2 } := by unfold served; rw [if_neg ht]
      rw [this]
  rw [hA2] at hB
  refine ⟨h.turn TT_ok hl _ hf rfl (fun y hy => .inl hy) hI hB (fun y hy => hco y (by rw [hx]; exact List.mem_cons_of_mem _ hy)) ?_, hf.mono fun y _ e => e.elim (fun e => .inr (.inr ⟨l, hm, e⟩)) (fun e => .inr (.inl e))⟩
  show 0 ≤ (if t = [] then 0 else l.df - x.2) ∧ (if t = [] then 0 else l.df - x.2) ≤ D
  split <;> omega
set_option maxHeartbeats 2000000 in
set_option maxRecDepth 20000 in
theorem serve_some (w : World) (h : DrrAt w d L D s) (i : Nat) (l : LN X) (hl : s.lines[i]? = some l) (x : X) (t : List X) (hx : l.things = x :: t) (hc : x.2 ≤ l.df) :
    Calls Try.prog 82 #[.pointer (some ⟨L, i * 3, none⟩)] w fun e w' => e = .returned (.tuple #[tv x, .bool true]) ∧ DrrAt w' d L D (s.put i (served l x t)) ∧ Fr (drfoot d L s) w w' := by
  have hm := List.mem_of_getElem? hl
  obtain ⟨w0, hw0⟩ : ∃ w0, w = w0 := ⟨_, rfl⟩
  have hF0 : Hid (Fr (fun _ => False) w w0) := by show Fr _ _ _; rw [← hw0]; exact (Fr.refl _ _)
  have h0 := h.quiet hF0.out
  have c0 := (h0.cellp hl).1
  have hI := h0.ring l hm
  have hlr := h0.Lring TT_ok hm
  have hco := h.ok.co l hm
  have hbd := csum_bd' (cost := xc) l.things hco
  have hrb := hI.bounds
  have hdf := h.ok.df l hm
  have hd2 := h.ok.d2
  have H := hide h
  have Hl := hide hl
  have Hx := hide hx
  have Hc := hide hc
  have HI0 := hide hI
  have HL0 := hide h0.ls
  have Hlr := hide hlr
  have hcx : 1 ≤ x.2 ∧ x.2 ≤ 8 := hco x (by rw [hx]; simp)
  have hcs : csum xc l.things = x.2 + csum xc t := by rw [hx]; rfl
  have kst : Hid (∀ (w1 : World) (x : X), ∃ wx, storeIn Try.prog 99 (.pointer (some ⟨w1.heap.size, 0, none⟩)) (.agg (enc x).toArray) (w1.alloc (.cells #[.int .i64 0, .int .i64 0] 99)) = .ok () wx ∧ Bl wx w1.heap.size tJob (enc x).toArray ∧ Fr (fun _ => False) w1 wx) := fun w1 x =>
    ⟨_, (Bl.new w1 tJob (enc zeroX).toArray).storeIn (P := Try.prog) (ty := tJob) x (enc_len x) (enc_one x) rfl infoJob, (Bl.new w1 tJob (enc zeroX).toArray).setRow _, Fr.setRow ((Fr.refl _ _).alloc _) (.inr (Nat.le_refl _)) _⟩
  have iw1 : IntKind.i64.wrap (l.df - x.2) = l.df - x.2 := IntWalk.i64_in _ (by omega)
  have iw2 : IntKind.i64.wrap (csum xc l.things - x.2) = csum xc l.things - x.2 := IntWalk.i64_in _ (by omega)
  have Hcs : Hid (csum xc l.things - x.2 = csum xc t) := by show _ = _; omega
  obtain ⟨cs, hcse⟩ : ∃ cs, csum xc l.things = cs := ⟨_, rfl⟩
  rw [hcse] at iw2 Hcs
  have hIt : RI w0 l.p l.g s.room (x :: t) := hx ▸ hI
  have hat := atR_in w0 hIt 0 x rfl
  have HX : Hid (∀ w', Fr (fun _ => False) w0 w' → w'.cell? ⟨L, i * 3, none⟩ = some (.pointer (some ⟨l.p, 0, none⟩)) ∧ w'.cell? ⟨L, i * 3 + 1, none⟩ = some (.int .i64 l.df) ∧ w'.cell? ⟨L, i * 3 + 2, none⟩ = some (.int .i64 cs)) := fun w' hf => hcse ▸ (h0.quiet hf).cellp hl
  have HIt := hide hIt
  have hnt : (decide ((t.length : Int) = 0)) = decide (t = []) := by cases t <;> simp; omega
  have Hnt := hide hnt
  clear h h0 hl hm hI hx hco hbd hcs hcse hIt hlr hnt
  go_enter Try.func82, Try.ntmps82
  go_wp2_with fail
  (try rw [hw0])
  clear hw0
  go_wp2_with fail
  refine hat.mono ?_
  rintro e w1 ⟨rfl, hf1⟩
  obtain ⟨wx, k1, hBx, hfx⟩ := kst.out w1 x
  have hf01 := hf1.trans hfx
  obtain ⟨d0, d1, d1b⟩ := HX.out wx hf01
  have d2 : wx.cell? ⟨w1.heap.size, 1, none⟩ = some (.int .i64 x.2) := hBx.cell' rfl
  have HBx := hide hBx
  have HF1 := hide hf01
  have hsz : w0.heap.size ≤ w1.heap.size := hf1.size
  clear hat hf1 hfx c0 hBx hf01 d1b
  obtain ⟨B1, hB1⟩ : ∃ B1, w1.heap.size = B1 := ⟨_, rfl⟩
  rw [hB1] at HBx k1 d2 hsz
  go_wp2_with fail
  (try rw [hB1])
  clear hB1
  go_quiet (fail)
  have HBq := hide (HBx.out.drewN nq)
  have HFq := hide (HF1.out.drewN nq)
  have dq0 : (wx.drewN nq).cell? ⟨L, i * 3, none⟩ = some (.pointer (some ⟨l.p, 0, none⟩)) := d0
  clear d0 d1 d2 k1 HBx HF1
  generalize wx.drewN nq = wq at HBq HFq dq0 ⊢
  go_wp2_with fail
  refine (dropR_any wq 1 (HIt.out.fr HFq.out (fun _ _ => id))).mono ?_
  rintro e w3 ⟨rfl, hI3, hF3⟩
  go_wp2_with fail
  have hI3' : RI w3 l.p l.g s.room t := by
    have e : (x :: t).drop (if (1 : Int) < 1 then 0 else min (1 : Int).toNat (x :: t).length) = t := by
      rw [if_neg (by omega), show min (1 : Int).toNat (x :: t).length = 1 by first | (simp; done) | (simp; omega)]; rfl
    rwa [e] at hI3
  have hn1 : ¬ qfoot l.p l.g B1 := fun e => by have := HIt.out.lt e; omega
  have hL3 := (HL0.out.fr HFq.out id).fr hF3 Hlr.out
  have hB3 := HBq.out.fr hF3 hn1
  have HF3 : Hid (Fr (fun y => qfoot l.p l.g y ∨ y = L) w w3) := ((hF0.out.trans HFq.out).weak _).trans (hF3.mono fun y _ e => .inl e)
  have hLB : L ≠ B1 := by have := HL0.out.lt; omega
  obtain ⟨e0, e1, e2⟩ := HX.out wq HFq.out
  have e0 := (hF3.cell (p := ⟨L, i * 3, none⟩) (World.block_lt_of_cell? wq _ e0) Hlr.out).trans e0
  have e1 := (hF3.cell (p := ⟨L, i * 3 + 1, none⟩) (World.block_lt_of_cell? wq _ e1) Hlr.out).trans e1
  have e2 := (hF3.cell (p := ⟨L, i * 3 + 2, none⟩) (World.block_lt_of_cell? wq _ e2) Hlr.out).trans e2
  have b1 : w3.cell? ⟨B1, 1, none⟩ = some (.int .i64 x.2) := hB3.cell' rfl
  have z1 := hL3.free (i * 3 + 1)
  have HI3 := hide hI3'
  have HL3 := hide hL3
  have HB3 := hide hB3
  have HE0 := hide e0
  have HE2 := hide e2
  clear hI3 hI3' hF3 dq0 hn1 e0 e2 hL3 hB3
  refine region_tail 9 (by kernel_rfl) (by kernel_rfl) ?_
  intro w4 Hw4 hcw4 hzw4 hsw4
  simp only [List.take_succ_cons, List.take_zero, List.drop_succ_cons, List.drop_zero]
  repeat still_step
  refine wpStill_nil ?_
  go_wp2_with fail
  have hF4 : Fr (fun y => y = L) w3 (w4.setCell ⟨L, i * 3 + 1, none⟩ (.int .i64 (l.df - x.2))) := by rw [Hw4.out]; exact ((Fr.refl _ _).drew).setAt _
  have HL5 : Hid (Bl (w4.setCell ⟨L, i * 3 + 1, none⟩ (.int .i64 (l.df - x.2))) L tLine ((cellsOf (lcells xc) s.lines).toArray.setIfInBounds (i * 3 + 1) (.int .i64 (l.df - x.2)))) := by show Bl _ _ _ _; rw [Hw4.out]; exact HL3.out.drew.set _ _
  have HE25 : Hid ((w4.setCell ⟨L, i * 3 + 1, none⟩ (.int .i64 (l.df - x.2))).cell? ⟨L, i * 3 + 2, none⟩ = some (.int .i64 cs) ∧ (w4.setCell ⟨L, i * 3 + 1, none⟩ (.int .i64 (l.df - x.2))).cell? ⟨L, i * 3, none⟩ = some (.pointer (some ⟨l.p, 0, none⟩))) := by
    have h2 := HL3.out.cell (i * 3 + 2)
    have h0 := HL3.out.cell (i * 3)
    rw [HE2.out] at h2
    rw [HE0.out] at h0
    exact ⟨(HL5.out.cell _).trans (by rw [Array.getElem?_setIfInBounds_ne (by omega)]; exact h2.symm), (HL5.out.cell _).trans (by rw [Array.getElem?_setIfInBounds_ne (by omega)]; exact h0.symm)⟩
  clear hcw4 hzw4 hsw4 e1 b1 z1
  generalize w4.setCell ⟨L, i * 3 + 1, none⟩ (.int .i64 (l.df - x.2)) = w5 at hF4 HL5 HE25 ⊢
  have e2 := HE25.out.1
  have e0 := HE25.out.2
  have b1 : w5.cell? ⟨B1, 1, none⟩ = some (.int .i64 x.2) := (HB3.out.fr hF4 (fun e => hLB e.symm)).cell' rfl
  have z2 := HL5.out.free (i * 3 + 2)
  refine region_tail 9 (by kernel_rfl) (by kernel_rfl) ?_
  intro w6 Hw6 hcw6 hzw6 hsw6
  simp only [List.take_succ_cons, List.take_zero, List.drop_succ_cons, List.drop_zero]
  repeat still_step
  refine wpStill_nil ?_
  go_wp2_with fail
  have hF6 : Fr (fun y => y = L) w3 (w6.setCell ⟨L, i * 3 + 2, none⟩ (.int .i64 (cs - x.2))) := by rw [Hw6.out]; exact (hF4.drew).setAt _
  have HL7 : Hid (Bl (w6.setCell ⟨L, i * 3 + 2, none⟩ (.int .i64 (cs - x.2))) L tLine (((cellsOf (lcells xc) s.lines).toArray.setIfInBounds (i * 3 + 1) (.int .i64 (l.df - x.2))).setIfInBounds (i * 3 + 2) (.int .i64 (csum xc t)))) := by show Bl _ _ _ _; rw [Hw6.out, Hcs.out]; exact HL5.out.drew.set _ _
  have HE07 : Hid ((w6.setCell ⟨L, i * 3 + 2, none⟩ (.int .i64 (cs - x.2))).cell? ⟨L, i * 3, none⟩ = some (.pointer (some ⟨l.p, 0, none⟩))) := by
    have h0 := HL5.out.cell (i * 3)
    rw [HE25.out.2] at h0
    exact (HL7.out.cell _).trans (by rw [Array.getElem?_setIfInBounds_ne (by omega)]; exact h0.symm)
  clear hcw6 hzw6 hsw6 e2 b1 z2 e0
  generalize w6.setCell ⟨L, i * 3 + 2, none⟩ (.int .i64 (cs - x.2)) = w7 at hF6 HL7 HE07 ⊢
  have e0 := HE07.out
  have HI7 := hide (HI3.out.fr hF6 (fun y hy e => Hlr.out (e ▸ hy)))
  have HB7 := hide (HB3.out.fr hF6 (fun e => hLB e.symm))
  have HF7 := hide (HF3.out.trans (hF6.mono fun y _ e => .inr e))
  have hlen := lenR_any w7 HI7.out
  have q0 : w7.cell? ⟨B1, 0, none⟩ = some (.int .i64 x.1) := HB7.out.cell' rfl
  have hBL := hLB.symm
  have hdm : (t.length : Int) = 0 ∨ ¬ (t.length : Int) = 0 := by omega
  rcases hdm with ht0 | ht0
  · have Ht : Hid (t = []) := List.eq_nil_of_length_eq_zero (by omega)
    have z1 := HL7.out.free (i * 3 + 1)
    have e1 : ∃ v, w7.cell? ⟨L, i * 3 + 1, none⟩ = some v := by
      have h1 := HL7.out.cell (i * 3 + 1)
      rw [Array.getElem?_setIfInBounds_ne (by omega)] at h1
      have hlt : i * 3 + 1 < (cellsOf (lcells xc) s.lines).toArray.size := by
        have := cellsOf_length (enc := lcells xc) (lcells_len xc) s.lines
        have := (List.getElem?_eq_some_iff.1 Hl.out).1
        simp; omega
      rw [Array.getElem?_setIfInBounds_self_of_lt hlt] at h1
      exact ⟨_, h1⟩
    obtain ⟨v, e1⟩ := e1
    refine hlen.mono ?_
    rintro e w' ⟨rfl, rfl⟩
    go_wp2_with fail
    go_ret2
    refine ⟨rfl, served_end H.out Hl.out Hx.out Hc.out (HF7.out.setIn (.inl (.inr rfl)) _) (HI7.out.fr (Fr.setAt (Fr.refl _ _) _) (fun y hy e => Hlr.out (e ▸ hy))) (HL7.out.set (i * 3 + 1) (.int .i64 0)) ?_⟩
    rw [if_pos Ht.out]
  · have Ht : Hid (¬ t = []) := fun e => ht0 (by rw [e]; rfl)
    refine hlen.mono ?_
    rintro e w' ⟨rfl, rfl⟩
    go_wp2_with fail
    go_ret2
    refine ⟨rfl, served_end H.out Hl.out Hx.out Hc.out HF7.out HI7.out HL7.out ?_⟩
    rw [if_neg Ht.out]
end
end Go.Proofs.Ytanfhmebjgmdpaa.Qi
