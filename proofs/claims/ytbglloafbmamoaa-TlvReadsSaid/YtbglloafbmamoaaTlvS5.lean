/-
  Readers of the reference: Records.
-/
import Derived.Test.YtbglloafbmamoaaTlvS4
namespace Go.Proofs.Ytbglloafbmamoaa
open Go.RowKit
set_option linter.unusedVariables false
attribute [local go_sem ↓] Go.wp_at_zero Go.wp_at_succ

theorem infoRR : (Try.prog.info? 87).map (fun i => (i.zero, i.size, i.bytes)) = some (some (.pointer none), 1, 8) := by kernel_rfl
/-- Readers of the reference that came out of a call. -/
structure Rrs (w : World) (wq B : Nat) (rs : List RRd) (ds : List RD) : Prop where
  len : rs.length = ds.length
  rr : ∀ i (hi : i < rs.length) (hj : i < ds.length), RR w wq rs[i] ds[i]
  new : ∀ r ∈ rs, ∀ y, r.foot y → B ≤ y
  ap : rs.Pairwise fun x y => ∀ z, x.foot z → ¬ y.foot z
theorem Rrs.nil_ (w : World) (wq B : Nat) : Rrs w wq B [] [] := ⟨rfl, (fun i hi => absurd hi (by simp)), (fun r h => by cases h), List.Pairwise.nil⟩
theorem RR.lt {w : World} {wq : Nat} {r : RRd} {d : RD} (h : RR w wq r d) : ∀ y, r.foot y → y < w.heap.size := fun y hy => h.ls.lt y hy.symm
theorem Rrs.fr {w w' : World} {wq B : Nat} {rs : List RRd} {ds : List RD} {S : Nat → Prop} (h : Rrs w wq B rs ds) (hf : Fr S w w') (hS : Within w S) (hp : ∀ r ∈ rs, ∀ x, r.foot x → ¬ S x) : Rrs w' wq B rs ds :=
  ⟨h.len, fun i hi hj => (h.rr i hi hj).fr hf hS (hp _ (List.getElem_mem hi)), h.new, h.ap⟩
theorem Rrs.more {w : World} {wq B B' : Nat} {rs : List RRd} {ds : List RD} (h : Rrs w wq B rs ds) (hB : B' ≤ B) : Rrs w wq B' rs ds := ⟨h.len, h.rr, fun r hr y hy => Nat.le_trans hB (h.new r hr y hy), h.ap⟩
theorem Rrs.add {w w' : World} {wq B : Nat} {rs : List RRd} {ds : List RD} {S : Nat → Prop} (h : Rrs w wq B rs ds) (hf : Fr S w w') (hS : Within w S) (hp : ∀ r ∈ rs, ∀ x, r.foot x → ¬ S x) {r : RRd} {d : RD} (hr : RR w' wq r d) (hn : ∀ y, r.foot y → w.heap.size ≤ y) (hB : B ≤ w.heap.size) : Rrs w' wq B (rs ++ [r]) (ds ++ [d]) := by
  have h' := h.fr hf hS hp
  refine ⟨by simp [h.len], fun i hi hj => ?_, fun x hx y hy => ?_, ?_⟩
  · by_cases hl : i < rs.length
    · rw [List.getElem_append_left hl, List.getElem_append_left (by rw [← h.len]; exact hl)]
      exact h'.rr i hl _
    · have e1 : i = rs.length := by simp at hi; omega
      subst e1
      rw [List.getElem_append_right (Nat.le_refl _), List.getElem_append_right (by rw [← h.len]; exact Nat.le_refl _)]
      simp only [Nat.sub_self, h.len, List.getElem_cons_zero]
      exact hr
  · rcases List.mem_append.1 hx with hx | hx
    · exact h.new x hx y hy
    · simp at hx; subst hx; exact Nat.le_trans hB (hn y hy)
  · rw [List.pairwise_append]
    refine ⟨h.ap, by simp, fun x hx y hy z hz1 hz2 => ?_⟩
    simp at hy; subst hy
    obtain ⟨i, hi, rfl⟩ := List.getElem_of_mem hx
    have := (h.rr i hi (by rw [← h.len]; exact hi)).lt z hz1
    have := hn z hz2
    omega

/-- Behind the reference's Records. -/
def RRecs (w : World) (wq : Nat) (ds : List RD) (e : Ending) (w' : World) : Prop :=
  ∃ rs O k c g, e = .returned (.slice O k c) ∧ Ow w' 87 1 O k c (rs.map fun r => rp r.q) g ∧ (∀ b, g = some b → w.heap.size ≤ b) ∧ Rrs w' wq w.heap.size rs ds ∧ k ≤ 1048576
set_option maxHeartbeats 8000000 in
set_option maxRecDepth 100000 in
theorem rrrecords_any (w : World) (wq : Nat) (r : RRd) (d : RD) (f : RF) (t most : Int) (hR : RR w wq r d) (hF : Flt w 139 wq f) :
    Calls Try.prog 86 #[rp r.q, .int .i64 t, .int .i64 most] w fun e w' => RRecs w wq (recordsS d f t most).1 e w' ∧ RPost w wq r (d.took f t) (recordsS d f t most).2 w' := by
  obtain ⟨j0, hj, hj0, hj1, hj2⟩ := info_parts infoRR
  have hok := hide hR.ok
  show Calls _ _ #[.pointer (some ⟨r.q, 0, none⟩), _, _] _ _
  go_enter Try.func86, Try.ntmps86
  go_wp2_with fail
  refine (rit_any w wq r d f t most hR hF).mono ?_
  rintro e w1 ⟨⟨bs, D, k, cD, gD, E, d2, gE, rfl, hxs, hD, hgD, hB, hE, hgE, hkb⟩, hP⟩
  obtain ⟨q, Lr, nr, cr, gr, rr⟩ := r
  obtain ⟨f1, hf1⟩ : ∃ f1, (itS d f t most).2.2 = f1 := ⟨_, rfl⟩
  rw [hf1] at hP
  obtain ⟨ba, hba⟩ : ∃ ba, d.base = ba := ⟨_, rfl⟩
  have Hba := hide hba
  have Hk : Hid (k = bs.length) := by have := hD.1; simp at this; exact this.symm
  -- what the items are: none, or those of F
  obtain ⟨Fs, F, hcase⟩ : ∃ (Fs : List GF) (F : GF), ((itS d f t most).1 = none ∧ Fs = [] ∧ k = 0) ∨ ((itS d f t most).1 = some F ∧ (itS d f t most).2.1 = Fs ∧ bs.map (·.xs) = Fs.map (GF.val (F.val d.bs)) ∧ itBegins (itS d f t most) = (Fs.map fun G => .int .i64 ((F.from_ + G.from_ : Nat) : Int)) ∧ F ∈ d.fs ∧ ∀ G ∈ Fs, G.from_ ≤ G.to_ ∧ G.to_ ≤ (F.val d.bs).length) := by
    rcases hx : (itS d f t most).1 with _ | F
    · refine ⟨[], ⟨0, 0, 0, 0⟩, .inl ⟨rfl, rfl, ?_⟩⟩
      have h1 := congrArg List.length hxs
      simp only [itVals, hx, List.length_map, List.length_nil] at h1
      rw [Hk.out, h1]
    · refine ⟨(itS d f t most).2.1, F, .inr ⟨rfl, rfl, ?_, ?_, ?_, ?_⟩⟩
      · rw [hxs]; simp only [itVals, hx]
      · simp only [itBegins, hx]
      · unfold itS at hx
        split at hx
        · cases hx
        · rename_i F' hfl
          simp only at hx
          split at hx
          · cases hx
          · split at hx
            · cases hx
            · cases hx; exact fld_mem hfl
      · unfold itS at hx ⊢
        split at hx
        · cases hx
        · rename_i F' hfl
          simp only at hx ⊢
          split at hx
          · cases hx
          · rename_i n1
            split at hx
            · cases hx
            · rename_i n2
              cases hx
              rw [if_neg n1, if_neg n2]
              exact itemsAll_at _
  have Hcase := hide hcase
  have hbd : Hid (∀ G ∈ Fs, ba + (F.from_ + G.from_) + (GF.val (F.val d.bs) G).length ≤ 1048576 ∧ (GF.val (F.val d.bs) G).length ≤ 1048576) := by
    intro G hG
    rcases hcase with ⟨_, h, _⟩ | ⟨_, _, _, _, h1, h2⟩
    · rw [h] at hG; cases hG
    · have h3 := hok.out.at_ F h1
      have h4 := hok.out.le
      have h5 := h2 G hG
      rw [GF.val_len h5.2]
      rw [GF.val_len h3.2.1] at h5
      rw [hba] at h4
      omega
  have hFl : Hid (Fs.length = k) := by
    rcases hcase with ⟨_, h1, h2⟩ | ⟨_, h1, h2, _⟩
    · rw [h1, h2]; rfl
    · have := congrArg List.length h2
      simp only [List.length_map] at this
      show Fs.length = k
      rw [Hk.out, this]
  have HP := hide hP
  have HB := hide hB
  have HD := hide hD
  have HE := hide hE
  have a0 : w1.cell? ⟨q, 0, none⟩ = some (.pointer (some ⟨wq, 0, none⟩)) := hP.rr.bl.cell' rfl
  have a1 : w1.cell? ⟨q, 1, none⟩ = some (.int .i64 (ba : Int)) := by rw [← hba]; exact hP.rr.bl.cell' rfl
  have nq : ¬ q = wq := fun e => absurd (hP.rr.bl.typed.same (e ▸ Bl.typed hP.flt)) (by decide)
  have s1 := hP.fr.size
  have Hf1 := hide hf1
  clear hP hR hF hf1 hcase hba hB hD hE
  go_wp2_with fail
  go_loopw [9, 10] (fun u i wr => ∃ (j : Nat) (rs : List RRd) (O : Option Addr) (co : Nat) (g : Option Nat) (ds : List RD) (ff : RF), j ≤ k ∧ i = .int .i64 j ∧ u = .slice O j co ∧ Hid (readersS f1 (ba + F.from_) (F.val d.bs) (Fs.take j) = (ds, ff)) ∧ Ow wr 87 1 O j co (rs.map fun r => rp r.q) g ∧ (∀ b, g = some b → w1.heap.size ≤ b) ∧ Rrs wr wq w1.heap.size rs ds ∧ Flt wr 139 wq ff ∧ Fr (fun x => x = wq) w1 wr) (fun _ i _ => k - (intOf i).toNat)
  case atStart => exact ⟨0, [], none, 0, none, [], f1, by omega, rfl, rfl, rfl, Ow.nil_ _ _ _, (fun b h => by cases h), Rrs.nil_ _ _ _, HP.out.flt, Fr.refl _ _⟩
  case round =>
    obtain ⟨j, rs, O, co, g, ds, ff, hjk, rfl, rfl, hsp, hO, hgO, hR, hFl2, hf⟩ := hrel
    have hwi := HP.out.flt.withinR
    by_cases hlt : j < k
    · have hjF : j < Fs.length := by rw [hFl.out]; exact hlt
      have hjb : j < bs.length := by rw [← Hk.out]; exact hlt
      obtain ⟨G, hG⟩ : ∃ G, Fs[j] = G := ⟨_, rfl⟩
      have hGm : G ∈ Fs := by rw [← hG]; exact List.getElem_mem hjF
      obtain ⟨hbd1, hbd2⟩ := hbd.out G hGm
      obtain ⟨hx1, hx2⟩ : bs[j].xs = GF.val (F.val d.bs) G ∧ (itBegins (itS d f t most))[j]? = some (.int .i64 ((F.from_ + G.from_ : Nat) : Int)) := by
        rcases Hcase.out with ⟨_, h, _⟩ | ⟨_, _, h2, h3, _⟩
        · rw [h] at hjF; simp at hjF
        · refine ⟨?_, ?_⟩
          · have h4 := map_get h2 hjb
            rw [List.getElem?_map, List.getElem?_eq_getElem hjF, hG] at h4
            exact Option.some.inj h4
          · rw [h3, List.getElem?_map, List.getElem?_eq_getElem hjF, hG]; rfl
      have hDr := HD.out.fr hf (fun b e => hwi.not (HD.out.typed b e) (by unfold Turns; decide))
      have hEr := HE.out.fr hf (fun b e => hwi.not (HE.out.typed b e) (by unfold Turns; decide))
      have hy := cells_get hjb []
      rw [List.append_nil] at hy
      obtain ⟨bD, oD, rfl, -, cD', -⟩ := hDr.look hy
      obtain ⟨bE, oE, rfl, -, cE', -⟩ := hEr.look hx2
      have ho := HB.out.ow (List.getElem_mem hjb)
      have hor := ho.fr hf (fun b e => hwi.not (ho.typed b e) (by unfold Turns; decide))
      rw [hx1] at hor
      obtain ⟨⟨bx, bA, bN, bC, bG⟩, hb⟩ : ∃ y, bs[j] = y := ⟨_, rfl⟩
      rw [hb] at cD' hor
      simp only at cD' hor
      obtain ⟨pm, hpm⟩ : ∃ pm, F.from_ + G.from_ = pm := ⟨_, rfl⟩
      rw [hpm] at cE' hbd1
      have hvl : Hid (bN = (GF.val (F.val d.bs) G).length) := hor.len
      have hbN : bN ≤ 1048576 := by rw [hvl.out]; exact hbd2
      have hpb : ba + pm + bN ≤ 1048576 := by rw [hvl.out]; omega
      have hcap := hor.cap
      have hcc1 := hcap.1
      have hcc2 : bC ≤ 9223372036854775807 := by have := hcap.2; unfold maxLen at this; exact this
      have hS := hor.sl
      have z0 := (hf.cell (World.block_lt_of_cell? w1 _ a0) nq).trans a0
      have z1 := (hf.cell (World.block_lt_of_cell? w1 _ a1) nq).trans a1
      have nD : ¬ bD = wq := fun e => absurd ((hDr.typed bD (hDr.blk ▸ rfl)).same (e ▸ Bl.typed hFl2)) (by decide)
      have nE : ¬ bE = wq := fun e => absurd ((hEr.typed bE (hEr.blk ▸ rfl)).same (e ▸ Bl.typed hFl2)) (by decide)
      have hv256 : Hid (∀ x ∈ GF.val (F.val d.bs) G, x < 256) := GF.val_bytes (GF.val_bytes hok.out.byte)
      have hw0 : IntKind.i64.wrap ((ba : Int) + (pm : Int)) = ((ba + pm : Nat) : Int) := by rw [IntWalk.i64_in _ (by omega)]; omega
      have hFj : Hid (Fs.take (j + 1) = Fs.take j ++ [G]) := by show _ = _; rw [List.take_succ_eq_append_getElem hjF, hG]
      have hspec : Hid (readersS f1 (ba + F.from_) (F.val d.bs) (Fs.take (j + 1)) = (ds ++ [(readS ff (ba + pm) (GF.val (F.val d.bs) G)).1], (readS ff (ba + pm) (GF.val (F.val d.bs) G)).2)) := by
        show _ = _
        rw [hFj.out, readersS_snoc, hsp.out, Nat.add_assoc, hpm]
      have HRr := hide hR
      have HFl := hide hFl2
      have hgq : ¬ some wq = g := fun e => absurd ((hO.typed wq e.symm).same (Bl.typed hFl2)) (by decide)
      have i1 : (0 : Int) ≤ (j : Int) := by omega
      have i2 : (j : Int) < (k : Int) := by omega
      clear hG hGm hbd1 hbd2 hx1 hx2 hDr hEr hy ho hor hb hpm hcap hR hFl2 hjF hjb
      go_wp2_with fail
      go_region_held3 (fun w' => w'.cell? ⟨q, 0, none⟩ = some (.pointer (some ⟨wq, 0, none⟩)) ∧ w'.cell? ⟨q, 1, none⟩ = some (.int .i64 (ba : Int)) ∧ w'.cell? ⟨bE, oE + j, none⟩ = some (.int .i64 (pm : Int)) ∧ w'.cell? ⟨bD, oD + j, none⟩ = some (.slice bA bN bC)) (go_keep)
        ((go_at_call 80; refine (rreader_any _ wq ff (ba + pm) (GF.val (F.val d.bs) G) _ bN bC (by exact HFl.out) (by omega) hcc1 hcc2 hv256.out (by exact hS) (by omega) (.inr (by rw [← hvl.out]; exact hpb))).mono ?_; rintro e w2 ⟨r', rfl, hN⟩; simp only [rp]; have hf2 := hN.fr; have y0 := (hf2.cell (World.block_lt_of_cell? wr _ z0) nq).trans z0; have y1 := (hf2.cell (World.block_lt_of_cell? wr _ z1) nq).trans z1; have y2 := (hf2.cell (World.block_lt_of_cell? wr _ cE') nE).trans cE'; have y3 := (hf2.cell (World.block_lt_of_cell? wr _ cD') nD).trans cD'))
      have hfr2 : Fr (fun x => x = wq) wr w2 := (Fr.refl _ _).drew.trans hN.fr
      have hO2 := hO.fr hfr2 (fun x e1 e2 => hgq (by rw [e1, e2]))
      go_wp2_with (first | (at_builtin; refine wpList_append_ow _ rfl _ _ 89 rfl 87 j0 (.pointer none) 1 8 Try.underlying89 hj hj0 hj1 hj2 rfl (by decide) _ _ _ _ _ rfl (hO2.fr (S := fun _ => False) ((Fr.refl _ _).alloc _) (fun _ _ => id)) _ _ _ [rp r'.q] rfl (Sl.one _ _ _) (by intro u hu; simp at hu; subst hu; rfl) (by unfold maxLen; omega) (by omega) ?_) | go_in)
      intro O3 co3 w3 g3 hO3 hf3 hg3
      have hf23 : Fr (fun x => some x = g) w2 w3 := ((Fr.refl _ _).alloc _).comp hf3 (fun _ _ e => e)
      have hsz := hf.size
      have s2 := hfr2.size
      have hR2 : Rrs w2 wq w1.heap.size (rs ++ [r']) (ds ++ [(readS ff (ba + pm) (GF.val (F.val d.bs) G)).1]) := HRr.out.add hfr2 HFl.out.withinR (fun r hr x hx e => by
        subst e
        obtain ⟨i, hi, rfl⟩ := List.getElem_of_mem hr
        exact HFl.out.notFootR (HRr.out.rr i hi (by rw [← HRr.out.len]; exact hi)) hx) hN.rr (fun y hy => hN.new y hy) hsz
      have hR3 : Rrs w3 wq w1.heap.size (rs ++ [r']) (ds ++ [(readS ff (ba + pm) (GF.val (F.val d.bs) G)).1]) := by
        refine ⟨hR2.len, fun i hi hj => ?_, hR2.new, hR2.ap⟩
        have h1 := hR2.rr i hi hj
        have hnt : ∀ {x t}, Typed w2 x t → t ≠ 87 → ¬ some x = g := fun h2 hne e => hne (h2.same (hO2.typed _ e.symm))
        exact ⟨h1.bl.fr hf23 (hnt h1.bl.typed (by decide)), h1.ls.fr hf23 (fun b e => hnt (h1.ls.typed b e) (by decide)), h1.eq, fun x hx => (h1.own x hx).fr hf23 fun b e => hnt ((h1.own x hx).typed b e) (by decide), h1.ok⟩
      go_wp2_with fail
      refine ⟨⟨j + 1, rs ++ [r'], O3, co3, g3, _, _, by omega, by go_num, rfl, hspec.out, ?_, fresh_app hgO (by first | omega | (simp; omega)) hg3, hR3, hN.flt.fr hf23 hgq, ?_⟩, by simp [intOf]; omega⟩
      · rw [List.map_append]; exact hO3
      · exact (hf.trans hfr2).comp hf23 fun x hx e => by have := hgO x e.symm; omega
    · obtain rfl : j = k := by omega
      have hlen : Hid (j = ds.length) := by
        show _ = _
        have := hO.1; simp at this; rw [← hR.len]; omega
      have z0 := (hf.cell (World.block_lt_of_cell? w1 _ a0) nq).trans a0
      have ze : wr.cell? ⟨wq, 1, none⟩ = some (.int .i64 ff.e) := Bl.cell' hFl2 rfl
      obtain ⟨er, her⟩ : ∃ er, ff.e = er := ⟨_, rfl⟩
      rw [her] at ze
      have Her := hide her
      have hall : Hid (readersS f1 (ba + F.from_) (F.val d.bs) Fs = (ds, ff)) := by
        show _ = _
        have h1 := hsp.out
        rw [List.take_of_length_le (by rw [hFl.out]; exact Nat.le_refl _)] at h1
        exact h1
      have hspec : Hid (recordsS d f t most = if 0 < ds.length ∧ ff.e ≠ 0 then ([], ff) else (ds, ff)) := by
        show _ = _
        unfold recordsS
        rcases Hcase.out with ⟨h3, h1, h2⟩ | ⟨h3, h1, _⟩
        · simp only [Hf1.out, h3]
          have h9 : readersS f1 (ba + F.from_) (F.val d.bs) [] = (ds, ff) := by rw [← h1]; exact hall.out
          obtain ⟨e1, e2⟩ := Prod.mk.inj (show ([], f1) = (ds, ff) from h9)
          rw [← e1, ← e2]; simp
        · simp only [Hf1.out, h3, h1, Hba.out, hall.out]
      have hPP : RPost w wq ⟨q, Lr, nr, cr, gr, rr⟩ (d.took f t) ff wr := HP.out.bad hf hFl2
      have HPP := hide hPP
      have HRr := hide hR
      have HO := hide hO
      clear hlt her hPP hR hO hFl2
      by_cases h0 : j = 0
      · subst h0
        have hs : Hid (recordsS d f t most = (ds, ff)) := by show _ = _; rw [hspec.out, if_neg (fun h => by have := hlen.out; omega)]
        go_wp2_with fail
        go_ret
        rw [hs.out]
        exact ⟨⟨rs, O, 0, co, g, rfl, HO.out, (fun b e => by have := hgO b e; omega), HRr.out.more s1, by omega⟩, HPP.out⟩
      by_cases he : er = 0
      · subst he
        have hs : Hid (recordsS d f t most = (ds, ff)) := by show _ = _; rw [hspec.out, if_neg (fun h => h.2 Her.out)]
        have hj1' : (0 : Int) < (j : Int) := by omega
        go_wp2_with fail
        go_ret
        rw [hs.out]
        exact ⟨⟨rs, O, j, co, g, rfl, HO.out, (fun b e => by have := hgO b e; omega), HRr.out.more s1, hkb⟩, HPP.out⟩
      · have hs : Hid (recordsS d f t most = ([], ff)) := by show _ = _; rw [hspec.out, if_pos ⟨by rw [← hlen.out]; omega, by rw [Her.out]; exact he⟩]
        have hj1' : (0 : Int) < (j : Int) := by omega
        go_wp2_with fail
        go_ret
        rw [hs.out]
        exact ⟨⟨[], none, 0, 0, none, rfl, Ow.nil_ _ _ _, (fun b h => by cases h), Rrs.nil_ _ _ _, by omega⟩, HPP.out⟩
end Go.Proofs.Ytbglloafbmamoaa
