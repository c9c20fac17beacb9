/-
  ring.Ring[int]: fit.
-/
import Derived.Test.YteleakbbppbnnaaRg3
namespace Go.Proofs.Yteleakbbppbnnaa
open Go.RowKit
set_option linter.unusedVariables false

theorem infoInt : (Try.prog.info? 3).map (fun i => (i.zero, i.size, i.bytes)) = some (some (.int .i64 0), 1, 8) := by kernel_rfl
theorem place_fr {p : Nat} {C : Option Addr} {nc cc : Nat} {first : Nat} {r l : Value} (w : World) (i : Nat) (hb : Bl w p tRing #[.slice C nc cc, r, .int .i64 (first : Int), l]) (h1 : 0 < nc) (h2 : first ≤ 70000) (h3 : i ≤ 70000) (h4 : nc ≤ 70000) (k : Nat) (hk : (first + i) % nc = k) :
    Calls Try.prog 23 #[.pointer (some ⟨p, 0, none⟩), .int .i64 (i : Int)] w fun e w' => e = .returned (.int .i64 (k : Int)) ∧ Fr (fun _ => False) w w' :=
  (place_any w i hb h1 h2 h3 h4 k hk).mono fun e w' ⟨he, m, hm⟩ => ⟨he, by rw [hm]; exact (Fr.refl _ _).drewN m⟩
/-- Behind a fit: the same things, and room for so many more. -/
def FitOut (w : World) (p : Nat) (g : Option Nat) (s : RS) (n : Nat) (w' : World) : Prop :=
  ∃ C cc g' s', s'.room = s.room ∧ s'.xs = s.xs ∧ s.xs.length + n ≤ s'.vals.length ∧ RingAt w' p C cc g' s' ∧ Fr (foot p g) w w' ∧ (g' = g ∨ ∃ b, g' = some b ∧ w.heap.size ≤ b)
/-- The first j things are in the new cells. -/
def Copying (w : World) (nb sz nx : Nat) (xs : List Int) (i : Value) (wr : World) : Prop :=
  ∃ (j : Nat) (zs : List Int), i = .int .i64 (j : Int) ∧ j ≤ nx ∧ zs.length = sz ∧ Ow wr 3 1 (some ⟨nb, 0, none⟩) sz sz (zs.map iv) (some nb) ∧ (∀ t, t < j → zs[t]? = xs[t]?) ∧ Fr (fun k => nb ≤ k) w wr
set_option maxHeartbeats 2000000 in
set_option maxRecDepth 4000 in
theorem fit_any {p : Nat} {C : Option Addr} {cc : Nat} {g : Option Nat} {s : RS} (w : World) (h : RingAt w p C cc g s) (n : Nat) (hn : s.xs.length + n ≤ s.room) :
    Calls Try.prog 22 #[.pointer (some ⟨p, 0, none⟩), .int .i64 (n : Int)] w fun e w' => e = .returned (.tuple #[]) ∧ FitOut w p g s n w' := by
  have hbl := h.bl
  have H := hide h
  have hok := hide h.ok
  have b1 := h.ok.l1; have b2 := h.ok.l2; have b3 := h.ok.r2; have b4 := h.ok.r1
  obtain ⟨nx, hnx⟩ : ∃ nx, s.xs.length = nx := ⟨_, rfl⟩
  obtain ⟨nc, hnc⟩ : ∃ nc, s.vals.length = nc := ⟨_, rfl⟩
  obtain ⟨f, hf⟩ : ∃ f, s.first = f := ⟨_, rfl⟩
  obtain ⟨rm, hrm⟩ : ∃ rm, s.room = rm := ⟨_, rfl⟩
  rw [hnx, hnc, hf, hrm] at hbl
  rw [hnx, hnc] at b1
  rw [hnc, hrm] at b2
  rw [hrm] at b3 b4
  rw [hnx, hrm] at hn
  have Hnx := hide hnx
  have Hnc := hide hnc
  have Hf := hide hf
  have Hrm := hide hrm
  clear hnx hnc hf hrm h
  have c0 : w.cell? ⟨p, 0, none⟩ = some (.slice C nc cc) := hbl.cell' rfl
  have c1 : w.cell? ⟨p, 1, none⟩ = some (.int .i64 (rm : Int)) := hbl.cell' rfl
  have c2 : w.cell? ⟨p, 2, none⟩ = some (.int .i64 (f : Int)) := hbl.cell' rfl
  have c3 : w.cell? ⟨p, 3, none⟩ = some (.int .i64 (nx : Int)) := hbl.cell' rfl
  have i2 : IntKind.i64.wrap ((nx : Int) + (n : Int)) = (nx : Int) + (n : Int) := IntWalk.i64_in _ (by omega)
  by_cases hfit : nx + n ≤ nc
  · have hout : Hid (FitOut w p g s n w) := ⟨C, cc, g, s, rfl, rfl, by rw [Hnx.out, Hnc.out]; exact hfit, H.out, Fr.refl _ _, .inl rfl⟩
    have hfit' : (nx : Int) + (n : Int) ≤ (nc : Int) := by omega
    clear hfit
    go_enter Try.func22, Try.ntmps22
    go_wp2_with fail
    go_quiet (fail)
    go_wp2_with fail
    ((try simp only [Exit.inBlock, Exit.then]); refine bodyPost_ret (results_none rfl _ _ _) rfl ?_)
    exact ⟨rfl, (by
      obtain ⟨C1, cc1, g1, s1, e1, e2, e3, h1, f1, k1⟩ := hout.out
      exact ⟨C1, cc1, g1, s1, e1, e2, e3, h1.fr ((Fr.refl (fun _ => False) w).drewN nq) id (fun _ _ => id), f1.drewN nq, k1⟩)⟩
  · have hfit' : ¬ (nx : Int) + (n : Int) ≤ (nc : Int) := by omega
    obtain ⟨sz, hsz⟩ : ∃ sz, min rm (max 4 (2 * (nx + n))) = sz := ⟨_, rfl⟩
    have s1 : nx + n ≤ sz := by omega
    have s2 : sz ≤ rm := by omega
    have i3 : IntKind.i64.wrap (2 * ((nx : Int) + (n : Int))) = 2 * ((nx : Int) + (n : Int)) := IntWalk.i64_in _ (by omega)
    obtain ⟨m4, hm4⟩ : ∃ m4 : Nat, (if (4 : Int) < 2 * ((nx : Int) + (n : Int)) then 2 * ((nx : Int) + (n : Int)) else 4) = (m4 : Int) := ⟨max 4 (2 * (nx + n)), by split <;> omega⟩
    have hm5 : Hid ((if m4 < rm then (m4 : Int) else (rm : Int)) = (sz : Int)) := by show _ = _; split at hm4 <;> split <;> omega
    obtain ⟨j0, hj, hj0, hj1, hj2⟩ := info_parts infoInt
    clear hsz
    go_enter Try.func22, Try.ntmps22
    go_wp2_with fail
    go_quiet (fail)
    go_wp2_with fail
    refine region_tail 13 (by kernel_rfl) (by kernel_rfl) ?_
    intro w1 Hw1 hcw1 hzw1 hsw1
    simp only [List.take_succ_cons, List.take_zero, List.drop_succ_cons, List.drop_zero]
    repeat still_step
    refine wpStill_nil ?_
    obtain ⟨nb, hnb⟩ : ∃ nb, w.heap.size = nb := ⟨_, rfl⟩
    have hs1 : w1.heap.size = nb := by rw [Hw1.out]; exact hnb
    have hfr1 : Fr (fun _ => False) w w1 := by rw [Hw1.out]; exact ((Fr.refl _ _).drewN nq).drew
    refine wpList_make_full _ rfl _ _ 22 rfl w1.heap.size 3 j0 (.int .i64 0) 1 Try.underlying22 hj hj0 hj1 .i64 .i64 _ _ sz rfl rfl hm5.out hm5.out (by rw [hj2]; omega) (by have : maxLen = 9223372036854775807 := rfl; omega) (Nat.le_refl _) ?_
    intro w2 how2 hgr
    rw [hs1] at how2 ⊢
    simp only [hm5.out]
    have hZ : Ow w2 3 1 (some ⟨nb, 0, none⟩) sz sz ((List.replicate sz (0 : Int)).map iv) (some nb) := by
      obtain ⟨A2, c2, g2, e, ho, -⟩ := Ow.ofOwns how2
      cases e
      have h2 : (madeCells (Value.int IntKind.i64 0).cells (sz * 1)).toList = (List.replicate sz (0 : Int)).map iv := by
        rw [Nat.mul_one, show (Value.int IntKind.i64 0).cells = #[.int .i64 0] from rfl, toList_madeCells_one, List.map_replicate]; rfl
      rw [h2] at ho
      rcases ho.2 with ⟨h0, _⟩ | ⟨b, o, cur, hA, hg, hh⟩
      · cases h0
      · cases hA; rw [hg] at ho; exact ho
    have hF2 : Fr (fun k => nb ≤ k) w w2 := (hfr1.weak _).trans ((Fr.ofGrown hgr).mono fun k _ e => by cases e)
    have hb2 : Bl w2 p tRing #[.slice C nc cc, .int .i64 (rm : Int), .int .i64 (f : Int), .int .i64 (nx : Int)] := hbl.fr hF2 (by have := hbl.lt; omega)
    have c3' : w2.cell? ⟨p, 3, none⟩ = some (.int .i64 (nx : Int)) := hb2.cell' rfl
    clear hm4 hs1 hsw1 hcw1 hzw1 how2 hgr Hw1 hfr1
    go_wp2_with fail
    go_loopw [36] (fun i wr => Copying w nb sz nx s.xs i wr) (fun i _ => nx - (intOf i).toNat)
    case atStart => exact ⟨0, _, rfl, Nat.zero_le _, by simp, hZ, fun t h => absurd h (by omega), hF2⟩
    case round =>
      obtain ⟨j, zs, rfl, hj, hzl, hZ, hat, hF⟩ := hrel
      by_cases hlt : j < nx
      · have hbr : Bl wr p tRing #[.slice C nc cc, .int .i64 (rm : Int), .int .i64 (f : Int), .int .i64 (nx : Int)] := hbl.fr hF (by have := hbl.lt; omega)
        have HR : RingAt wr p C cc g s := H.out.fr hF (by have := hbl.lt; omega) (fun b hb => by have := H.out.ow.lt b hb; omega)
        have hjx : j < s.xs.length := by rw [Hnx.out]; exact hlt
        obtain ⟨h1, h2, h3, h4⟩ := RS.pos HR.ok hjx
        have hcell := HR.ok.at_ j hjx
        rw [List.getElem?_eq_getElem hjx] at hcell
        obtain ⟨kk, hkk⟩ : ∃ kk, (s.first + j) % s.vals.length = kk := ⟨_, rfl⟩
        have hkl : kk < s.vals.length := by rw [← hkk]; exact Nat.mod_lt _ h1
        rw [hkk] at hcell
        obtain ⟨x, hx⟩ : ∃ x, s.xs[j] = x := ⟨_, rfl⟩
        rw [hx] at hcell
        obtain ⟨b, o, rfl, hgb, hc, -⟩ := HR.ow.look (j := kk) (u := .int .i64 x) (by rw [List.getElem?_map, hcell]; rfl)
        obtain ⟨y, hy⟩ : ∃ y, zs[j]? = some y := ⟨_, List.getElem?_eq_getElem (by omega)⟩
        obtain ⟨b', o', he, -, hc', hz'⟩ := hZ.look (j := j) (u := .int .i64 y) (by rw [List.getElem?_map, hy]; rfl)
        cases he
        rw [Nat.zero_add] at hc' hz'
        have d0 : wr.cell? ⟨p, 0, none⟩ = some (.slice (some ⟨b, o, none⟩) nc cc) := hbr.cell' rfl
        rw [Hnc.out] at h1 h4 hkl hkk
        rw [Hf.out] at h2 hkk
        have n1 : p ≠ nb := by have := hbl.lt; omega
        have n2 : b ≠ nb := by have := H.out.ow.lt b hgb; omega
        have n3 := n1.symm
        have n4 := n2.symm
        have Hkk := hide hkk
        have H1 := hide h1
        have H4 := hide h4
        have Hx := hide hx
        have Hgb := hide hgb
        have i1 : (0 : Int) ≤ (kk : Int) := by omega
        have i2 : (kk : Int) < (nc : Int) := by omega
        have i3 : (0 : Int) ≤ (j : Int) := by omega
        have i4 : (j : Int) < (sz : Int) := by omega
        clear hkk h1 h4 hx hy hcell hgb
        go_wp2_with fail
        go_region_held3 (fun w' => w'.cell? ⟨p, 0, none⟩ = some (.slice (some ⟨b, o, none⟩) nc cc) ∧ w'.cell? ⟨b, o + kk, none⟩ = some (.int .i64 x)) (go_keep)
          ((go_at_call 23; refine (place_fr _ j (by exact hbr) H1.out h2 h3 H4.out kk Hkk.out).mono ?_; rintro e w4 ⟨rfl, hf4⟩; have k0 := (hf4.cell (World.block_lt_of_cell? wr _ d0) id).trans d0; have k1 := (hf4.cell (World.block_lt_of_cell? wr _ hc) id).trans hc; have k2 := (hf4.frozen (World.block_lt_of_cell? wr _ hc') id).trans hz'; have k3 := (hf4.cell (World.block_lt_of_cell? wr _ hc') id).trans hc'))
        have hFx : Fr (fun k => nb ≤ k) w (w4.setCell ⟨nb, j, none⟩ (.int .i64 x)) := (hF.trans ((Fr.drew (by exact Fr.refl _ _)).trans (hf4.weak _))).setIn (.inl (Nat.le_refl _)) _
        have hZx := hide ((hZ.fr ((Fr.refl (fun _ => False) _).drew.trans hf4) (fun _ _ => id)).put (j := j) (by omega) (.int .i64 x))
        rw [Nat.zero_add] at hZx
        clear hZ
        go_wp2_with fail
        refine ⟨⟨j + 1, zs.set j x, by go_num, by omega, by rw [List.length_set]; exact hzl, ?_, fun t ht => ?_, hFx⟩, by simp [intOf]; omega⟩
        · rw [List.map_set]; exact hZx.out
        · by_cases htj : t = j
          · subst htj
            rw [List.getElem?_set_self (by omega), List.getElem?_eq_getElem hjx, Hx.out]
          · rw [List.getElem?_set_ne (by omega)]; exact hat t (by omega)
      · obtain rfl : j = nx := by omega
        have hbr : Bl wr p tRing #[.slice C nc cc, .int .i64 (rm : Int), .int .i64 (f : Int), .int .i64 (j : Int)] := hbl.fr hF (by have := hbl.lt; omega)
        have z0 := hbr.free 0
        have z2 := hbr.free 2
        have d0 : wr.cell? ⟨p, 0, none⟩ = some (.slice C nc cc) := hbr.cell' rfl
        have d2 : wr.cell? ⟨p, 2, none⟩ = some (.int .i64 (f : Int)) := hbr.cell' rfl
        go_wp2_with fail
        go_end0
        have hpn : p < nb := by have := hbl.lt; omega
        have hFe : Fr (· = p) wr ((wr.setCell ⟨p, 0, none⟩ (.slice (some ⟨nb, 0, none⟩) sz sz)).setCell ⟨p, 2, none⟩ (.int .i64 0)) := ((Fr.refl _ _).setAt _).setAt _
        refine ⟨rfl, some ⟨nb, 0, none⟩, sz, some nb, ⟨s.room, 0, zs, s.xs⟩, rfl, rfl, ?_, ⟨?_, ?_, ⟨hok.out.r1, hok.out.r2, ?_, ?_, .inl rfl, fun i hi => ?_⟩⟩, ((hF.mono (T := foot p g) fun k hk e => by omega).comp hFe fun i hi e => .inl e), .inr ⟨nb, rfl, by omega⟩⟩
        · show s.xs.length + n ≤ zs.length; rw [Hnx.out, hzl]; exact s1
        · have hb3 := (hbr.set 0 (.slice (some ⟨nb, 0, none⟩) sz sz)).set 2 (.int .i64 0)
          show Bl _ p tRing #[.slice (some ⟨nb, 0, none⟩) zs.length sz, .int .i64 (s.room : Int), .int .i64 ((0 : Nat) : Int), .int .i64 (s.xs.length : Int)]
          rw [hzl, Hrm.out, Hnx.out]; exact hb3
        · show Ow _ 3 1 (some ⟨nb, 0, none⟩) zs.length sz (zs.map iv) (some nb)
          rw [hzl]
          exact hZ.fr hFe (fun b hb e => by cases hb; omega)
        · show s.xs.length ≤ zs.length; rw [Hnx.out, hzl]; omega
        · show zs.length ≤ s.room; rw [Hrm.out, hzl]; exact s2
        · have hi' : i < j := by have : i < s.xs.length := hi; rw [Hnx.out] at this; exact this
          show zs[(0 + i) % zs.length]? = s.xs[i]?
          rw [Nat.zero_add, Nat.mod_eq_of_lt (by omega)]
          exact hat i (by omega)
end Go.Proofs.Yteleakbbppbnnaa
