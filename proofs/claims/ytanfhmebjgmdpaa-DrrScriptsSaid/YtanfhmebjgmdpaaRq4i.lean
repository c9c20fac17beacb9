/-
  bazaar/ring.Ring[bazaar/drr.job[int]]: fit.
-/
import Derived.Test.YtanfhmebjgmdpaaRq2i
namespace Go.Proofs.Ytanfhmebjgmdpaa.Qi
open Go.RowKit
set_option linter.unusedVariables false
attribute [local go_sem ↓] storeJ_

abbrev RFitOut := QFitOut (X := X) tRing tJob 2 enc
/-- The first j things are in the new cells. -/
def Copying (w : World) (nb sz nx : Nat) (xs : List X) (i : Value) (wr : World) : Prop :=
  ∃ (j : Nat) (zs : List X), i = .int .i64 (j : Int) ∧ j ≤ nx ∧ zs.length = sz ∧ Ow wr tJob 2 (some ⟨nb, 0, none⟩) sz sz (cellsOf enc zs) (some nb) ∧ (∀ t, t < j → zs[t]? = xs[t]?) ∧ Fr (fun k => nb ≤ k) w wr
set_option maxHeartbeats 2000000 in
set_option maxRecDepth 10000 in
theorem fit_no {p : Nat} {C : Option Addr} {cc : Nat} {g : Option Nat} {s : QS X} (w : World) (h : RingAt w p C cc g s) (n : Nat) (hn : s.xs.length + n ≤ s.room) (hfit : s.xs.length + n ≤ s.vals.length) :
    Calls Try.prog 63 #[.pointer (some ⟨p, 0, none⟩), .int .i64 (n : Int)] w fun e w' => e = .returned (.tuple #[]) ∧ RFitOut w p g s n w' := by
  have hbl := h.bl
  have H := hide h
  have Hfit := hide hfit
  have b2 := h.ok.l2; have b3 := h.ok.r2
  obtain ⟨nx, hnx⟩ : ∃ nx, s.xs.length = nx := ⟨_, rfl⟩
  obtain ⟨nc, hnc⟩ : ∃ nc, s.vals.length = nc := ⟨_, rfl⟩
  rw [hnx, hnc] at hbl hfit
  rw [hnx] at hn
  rw [hnc] at b2
  have c0 : w.cell? ⟨p, 0, none⟩ = some (.slice C nc cc) := hbl.cell' rfl
  have c3 : w.cell? ⟨p, 3, none⟩ = some (.int .i64 (nx : Int)) := hbl.cell' rfl
  have i2 : IntKind.i64.wrap ((nx : Int) + (n : Int)) = (nx : Int) + (n : Int) := IntWalk.i64_in _ (by omega)
  have hfit' : (nx : Int) + (n : Int) ≤ (nc : Int) := by omega
  clear hfit hnx hnc h
  go_enter Try.func63, Try.ntmps63
  go_wp2_with fail
  go_quiet (fail)
  go_wp2_with fail
  ((try simp only [Exit.inBlock, Exit.then]); refine bodyPost_ret (results_none rfl _ _ _) rfl ?_)
  exact ⟨rfl, C, cc, g, s, rfl, rfl, Hfit.out, H.out.fr ((Fr.refl (fun _ => False) w).drewN nq) id (fun _ _ => id), ((Fr.refl (fun _ => False) w).drewN nq).weak _, .inl rfl⟩
set_option maxHeartbeats 2000000 in
set_option maxRecDepth 10000 in
attribute [-go_sem] Go.Instr.loadAt in
theorem fit_any {p : Nat} {C : Option Addr} {cc : Nat} {g : Option Nat} {s : QS X} (w : World) (h : RingAt w p C cc g s) (n : Nat) (hn : s.xs.length + n ≤ s.room) :
    Calls Try.prog 63 #[.pointer (some ⟨p, 0, none⟩), .int .i64 (n : Int)] w fun e w' => e = .returned (.tuple #[]) ∧ RFitOut w p g s n w' := by
  by_cases hfit0 : s.xs.length + n ≤ s.vals.length
  · exact fit_no w h n hn hfit0
  have hbl := h.bl
  have H := hide h
  have hok := hide h.ok
  have b1 := h.ok.l1; have b2 := h.ok.l2; have b3 := h.ok.r2; have b4 := h.ok.r1
  obtain ⟨nx, hnx⟩ : ∃ nx, s.xs.length = nx := ⟨_, rfl⟩
  obtain ⟨nc, hnc⟩ : ∃ nc, s.vals.length = nc := ⟨_, rfl⟩
  obtain ⟨f, hf⟩ : ∃ f, s.first = f := ⟨_, rfl⟩
  obtain ⟨rm, hrm⟩ : ∃ rm, s.room = rm := ⟨_, rfl⟩
  rw [hnx, hnc, hf, hrm] at hbl
  rw [hnx, hnc] at b1 hfit0
  rw [hnc, hrm] at b2
  rw [hrm] at b3 b4
  rw [hnx, hrm] at hn
  have Hnx := hide hnx
  have Hnc := hide hnc
  have Hf := hide hf
  have Hrm := hide hrm
  clear hnx hnc hf hrm h
  have L0 : ∀ m, (Instr.loadAt 133 (.pointer (some ⟨p, 0, none⟩))).run Try.prog (w.drewN m) = .ok (.slice C nc cc) (w.drewN m) := fun m => run_loadAt_slice ((hbl.drewN m).cell' rfl)
  have L3 : ∀ m, (Instr.loadAt 3 (.pointer (some ⟨p, 3, none⟩))).run Try.prog (w.drewN m) = .ok (.int .i64 (nx : Int)) (w.drewN m) := fun m => run_loadAt_int ((hbl.drewN m).cell' rfl)
  have i2 : IntKind.i64.wrap ((nx : Int) + (n : Int)) = (nx : Int) + (n : Int) := IntWalk.i64_in _ (by omega)
  have hfit' : ¬ (nx : Int) + (n : Int) ≤ (nc : Int) := by omega
  obtain ⟨sz, hsz⟩ : ∃ sz, min rm (max 4 (2 * (nx + n))) = sz := ⟨_, rfl⟩
  have s1 : nx + n ≤ sz := by omega
  have s2 : sz ≤ rm := by omega
  have i3 : IntKind.i64.wrap (2 * ((nx : Int) + (n : Int))) = 2 * ((nx : Int) + (n : Int)) := IntWalk.i64_in _ (by omega)
  obtain ⟨m4, hm4⟩ : ∃ m4 : Nat, (if (4 : Int) < 2 * ((nx : Int) + (n : Int)) then 2 * ((nx : Int) + (n : Int)) else 4) = (m4 : Int) := ⟨max 4 (2 * (nx + n)), by split <;> omega⟩
  have hm5 : Hid ((if m4 < rm then (m4 : Int) else (rm : Int)) = (sz : Int)) := by show _ = _; split at hm4 <;> split <;> omega
  obtain ⟨j0, hj, hj0, hj1, hj2⟩ := info_parts infoJob3
  clear hsz hfit0
  go_enter Try.func63, Try.ntmps63
  go_wp2_with fail
  go_quiet (fail)
  go_wp2_with fail
  refine region_tail 13 (by kernel_rfl) (by kernel_rfl) ?_
  intro w1 Hw1 hcw1 hzw1 hsw1
  have hfr1 : Fr (fun _ => False) w w1 := by rw [Hw1.out]; exact ((Fr.refl _ _).drewN nq).drew
  have L1' : (Instr.loadAt 3 (.pointer (some ⟨p, 1, none⟩))).run Try.prog w1 = .ok (.int .i64 (rm : Int)) w1 := run_loadAt_int ((hbl.fr hfr1 id).cell' rfl)
  have L3' : (Instr.loadAt 3 (.pointer (some ⟨p, 3, none⟩))).run Try.prog w1 = .ok (.int .i64 (nx : Int)) w1 := run_loadAt_int ((hbl.fr hfr1 id).cell' rfl)
  simp only [List.take_succ_cons, List.take_zero, List.drop_succ_cons, List.drop_zero]
  repeat still_step
  refine wpStill_nil ?_
  obtain ⟨nb, hnb⟩ : ∃ nb, w.heap.size = nb := ⟨_, rfl⟩
  have hs1 : w1.heap.size = nb := by rw [Hw1.out]; exact hnb
  refine wpList_make_full _ rfl _ _ 133 rfl w1.heap.size 99 j0 (.agg (enc zeroX).toArray) 2 Try.underlying133 hj hj0 hj1 .i64 .i64 _ _ sz rfl rfl hm5.out hm5.out (by rw [hj2]; omega) (by have : maxLen = 9223372036854775807 := rfl; omega) (Nat.le_refl _) ?_
  intro w2 how2 hgr
  rw [hs1] at how2 ⊢
  simp only [hm5.out]
  have hZ : Ow w2 tJob 2 (some ⟨nb, 0, none⟩) sz sz (cellsOf enc (List.replicate sz zeroX)) (some nb) := by
    obtain ⟨A2, c2, g2, e, ho, -⟩ := Ow.ofOwns how2
    cases e
    rw [show (Value.agg (enc zeroX).toArray).cells = (enc zeroX).toArray from rfl, madeCells_of enc_len (by decide)] at ho
    rcases ho.2 with ⟨h0, _⟩ | ⟨b, o, cur, hA, hg, hh⟩
    · cases h0
    · cases hA; rw [hg] at ho; exact ho
  have hF2 : Fr (fun k => nb ≤ k) w w2 := (hfr1.weak _).trans ((Fr.ofGrown hgr).mono fun k _ e => by cases e)
  have hb2 : Bl w2 p tRing #[.slice C nc cc, .int .i64 (rm : Int), .int .i64 (f : Int), .int .i64 (nx : Int)] := hbl.fr hF2 (by have := hbl.lt; omega)
  have L3'' : (Instr.loadAt 3 (.pointer (some ⟨p, 3, none⟩))).run Try.prog w2 = .ok (.int .i64 (nx : Int)) w2 := run_loadAt_int (hb2.cell' rfl)
  clear hm4 hs1 hsw1 hcw1 hzw1 how2 hgr Hw1 hfr1 L0 L3 L1' L3'
  go_wp2_with fail
  clear L3''
  go_loopw [36] (fun i wr => Copying w nb sz nx s.xs i wr) (fun i _ => nx - (intOf i).toNat)
  case atStart => exact ⟨0, _, rfl, Nat.zero_le _, by simp, hZ, fun t h => absurd h (by omega), hF2⟩
  case round =>
    obtain ⟨j, zs, rfl, hj, hzl, hZ, hat, hF⟩ := hrel
    by_cases hlt : j < nx
    · have hbr : Bl wr p tRing #[.slice C nc cc, .int .i64 (rm : Int), .int .i64 (f : Int), .int .i64 (nx : Int)] := hbl.fr hF (by have := hbl.lt; omega)
      have HR : RingAt wr p C cc g s := H.out.fr hF (by have := hbl.lt; omega) (fun b hb => by have := H.out.ow.lt b hb; omega)
      have hjx : j < s.xs.length := by rw [Hnx.out]; exact hlt
      obtain ⟨h1, h2, h3, h4⟩ := QS.pos HR.ok hjx
      have hcell := HR.ok.at_ j hjx
      rw [List.getElem?_eq_getElem hjx] at hcell
      obtain ⟨kk, hkk⟩ : ∃ kk, (s.first + j) % s.vals.length = kk := ⟨_, rfl⟩
      have hkl : kk < s.vals.length := by rw [← hkk]; exact Nat.mod_lt _ h1
      rw [hkk] at hcell
      obtain ⟨x, hx⟩ : ∃ x, s.xs[j] = x := ⟨_, rfl⟩
      rw [hx] at hcell
      obtain ⟨b, o, cur, rfl, hgb, -⟩ := HR.ow.row enc_len hcell rfl
      have how := hide HR.ow
      have HZ := hide hZ
      rw [Hnc.out] at h1 h4 hkl hkk how
      rw [Hf.out] at h2 hkk
      have n1 : p ≠ nb := by have := hbl.lt; omega
      have n2 : b ≠ nb := by have := H.out.ow.lt b hgb; omega
      have hgn : ∀ b', g = some b' → b' ≠ nb := fun b' e => by have := H.out.ow.lt b' e; omega
      have Hkk := hide hkk
      have H1 := hide h1
      have H4 := hide h4
      have Hx := hide hx
      have Hgb := hide hgb
      have Hcell := hide hcell
      have i1 : (0 : Int) ≤ (kk : Int) := by omega
      have i2 : (kk : Int) < (nc : Int) := by omega
      have i3 : (0 : Int) ≤ (j : Int) := by omega
      have i4 : (j : Int) < (sz : Int) := by omega
      have hjz : j < sz := by omega
      have hall0 : ∀ w', Fr (fun x => x = nb) wr w' → (Instr.loadAt 133 (.pointer (some ⟨p, 0, none⟩))).run Try.prog w' = .ok (.slice (some ⟨b, o, none⟩) nc cc) w' := fun w' hf => run_loadAt_slice ((hbr.fr hf n1).cell' rfl)
      have hall1 : ∀ w', Fr (fun x => x = nb) wr w' → (Instr.loadAt 99 (.pointer (some ⟨b, o + kk * 2, none⟩))).run Try.prog w' = .ok (.agg (enc x).toArray) w' := fun w' hf =>
        (how.out.fr hf hgn).load enc_len Hcell.out Hnc.out Try.underlying99 rfl infoJob
      have hF0 : Fr (fun x => x = nb) wr wr := Fr.refl _ _
      clear hkk h1 h4 hx hcell hgb hZ
      go_wp2_with fail
      go_region_held3 (fun w' => Fr (fun x => x = nb) wr w') (first | assumption | exact Fr.drew (by assumption))
        ((go_at_call 64; refine (place_fr _ j (by exact hbr) H1.out h2 h3 H4.out kk Hkk.out).mono ?_; rintro e w4 ⟨rfl, hf4⟩; have kf4 : Fr (fun _ => False) wr w4 := (Fr.drew (by exact Fr.refl _ _)).trans hf4; have kf5 : Fr (fun x => x = nb) wr w4 := kf4.weak _; obtain ⟨ws, ks, hO5, hF5⟩ := (HZ.out.fr kf4 (fun _ _ => id)).storeIn (P := Try.prog) (ty := tJob) enc_len enc_one hjz hzl x infoJob; rw [Nat.zero_add] at ks; have ks2 : Fr (fun x => x = nb) wr ws := kf5.trans hF5))
      have hFx : Fr (fun k => nb ≤ k) w ws := hF.trans (ks2.mono fun k _ e => by omega)
      have HO5 := hide hO5
      clear hall0 hall1 hO5 ks
      go_wp2_with fail
      refine ⟨⟨j + 1, zs.set j x, by go_num, by omega, by rw [List.length_set]; exact hzl, HO5.out, fun t ht => ?_, hFx⟩, by simp [intOf]; omega⟩
      by_cases htj : t = j
      · subst htj
        rw [List.getElem?_set_self (by omega), List.getElem?_eq_getElem hjx, Hx.out]
      · rw [List.getElem?_set_ne (by omega)]; exact hat t (by omega)
    · obtain rfl : j = nx := by omega
      have hbr : Bl wr p tRing #[.slice C nc cc, .int .i64 (rm : Int), .int .i64 (f : Int), .int .i64 (j : Int)] := hbl.fr hF (by have := hbl.lt; omega)
      have z0 := hbr.free 0
      have z2 := hbr.free 2
      have d0 : wr.cell? ⟨p, 0, none⟩ = some (.slice C nc cc) := hbr.cell' rfl
      have d2 : wr.cell? ⟨p, 2, none⟩ = some (.int .i64 (f : Int)) := hbr.cell' rfl
      go_wp2_with fail
      go_end0
      have hpn : p < nb := by have := hbl.lt; omega
      have hFe : Fr (· = p) wr ((wr.setCell ⟨p, 0, none⟩ (.slice (some ⟨nb, 0, none⟩) sz sz)).setCell ⟨p, 2, none⟩ (.int .i64 0)) := ((Fr.refl _ _).setAt _).setAt _
      refine ⟨rfl, some ⟨nb, 0, none⟩, sz, some nb, ⟨s.room, 0, zs, s.xs⟩, rfl, rfl, ?_, ⟨?_, ?_, ⟨hok.out.r1, hok.out.r2, ?_, ?_, .inl rfl, fun i hi => ?_⟩⟩, ((hF.mono (T := qfoot p g) fun k hk e => by omega).comp hFe fun i hi e => .inl e), .inr ⟨nb, rfl, by omega⟩⟩
      · show s.xs.length + n ≤ zs.length; rw [Hnx.out, hzl]; exact s1
      · have hb3 := (hbr.set 0 (.slice (some ⟨nb, 0, none⟩) sz sz)).set 2 (.int .i64 0)
        show Bl _ p tRing #[.slice (some ⟨nb, 0, none⟩) zs.length sz, .int .i64 (s.room : Int), .int .i64 ((0 : Nat) : Int), .int .i64 (s.xs.length : Int)]
        rw [hzl, Hrm.out, Hnx.out]; exact hb3
      · show Ow _ tJob 2 (some ⟨nb, 0, none⟩) zs.length sz (cellsOf enc zs) (some nb)
        rw [hzl]
        exact hZ.fr hFe (fun b hb e => by cases hb; omega)
      · show s.xs.length ≤ zs.length; rw [Hnx.out, hzl]; omega
      · show zs.length ≤ s.room; rw [Hrm.out, hzl]; exact s2
      · have hi' : i < j := by have : i < s.xs.length := hi; rw [Hnx.out] at this; exact this
        show zs[(0 + i) % zs.length]? = s.xs[i]?
        rw [Nat.zero_add, Nat.mod_eq_of_lt (by omega)]
        exact hat i (by omega)
end Go.Proofs.Ytanfhmebjgmdpaa.Qi
