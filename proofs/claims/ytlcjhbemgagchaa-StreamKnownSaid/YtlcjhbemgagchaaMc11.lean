/-
  Texts merged into one, to keep the claim small: TlvR5.
-/
import Derived.Test.YtlcjhbemgagchaaMc10
/-
  Readers of the program: Record, Records.
-/
namespace Go.Proofs.Ytlcjhbemgagchaa
open Go.RowKit
set_option linter.unusedVariables false
attribute [local go_sem ↓] Go.wp_at_zero Go.wp_at_succ

set_option maxHeartbeats 4000000 in
set_option maxRecDepth 4000 in
theorem trrecord_any (w : World) (pf b : Nat) (r : TRd) (d : RD) (f : RF) (t : Int) (hT : TR w pf b r d) (hF : Flt w 210 pf f) :
    Calls Try.prog 128 #[rp r.p, .int .i64 t] w fun e w' => ∃ r', e = .returned (rp r'.p) ∧ TPost w pf b r (d.took f t) (recordS d f t).2 w' ∧ TR w' pf b r' (recordS d f t).1 ∧ (∀ y, r'.foot y → w.heap.size ≤ y) := by
  have cn : w.cell? ⟨r.p, 0, none⟩ = some (.pointer (some ⟨pf, 0, none⟩)) := hT.bl.cell' rfl
  have Hok := hide hT.ok
  go_enter Try.func128, Try.ntmps128
  go_wp2_with fail
  refine (none_some w r.p pf cn).mono ?_
  rintro e w' ⟨rfl, rfl⟩
  go_wp2_with fail
  refine (tfield_any w pf b r d f t hT hF).mono ?_
  rintro e w1 ⟨⟨i, hi, hix, hfl, rfl⟩ | ⟨hfl, rfl⟩, hT1, hf1⟩
  · have hP := TPost.fld hT hF hT1 hf1
    obtain ⟨p, L, n, c, g, ps⟩ := r
    obtain ⟨⟨q, F, o⟩, hy⟩ : ∃ y, ps[i]'hi = y := ⟨_, rfl⟩
    have hp := hT1.at_ i hi
    have hbuf := hT1.buf (by have h9 : i < ps.length := hi; show 0 < ps.length; omega)
    simp only [hy] at hp hfl
    simp only [hy, rp]
    have a0 : w1.cell? ⟨p, 0, none⟩ = some (.pointer (some ⟨pf, 0, none⟩)) := hT1.bl.cell' rfl
    have a1 : w1.cell? ⟨p, 1, none⟩ = some (.int .i64 (d.base : Int)) := hT1.bl.cell' rfl
    have q2 : w1.cell? ⟨q, 2, none⟩ = some (.int .i64 (F.from_ : Int)) := hp.bl.cell' rfl
    have q3 : w1.cell? ⟨q, 3, none⟩ = some (.slice (some ⟨b, o, none⟩) (F.to_ - F.from_) (F.to_ - F.from_)) := hp.bl.cell' rfl
    have np : ¬ p = pf := fun e => absurd (hT1.bl.typed.same (e ▸ Bl.typed hP.flt)) (by decide)
    have nq : ¬ q = pf := fun e => absurd (hp.bl.typed.same (e ▸ Bl.typed hP.flt)) (by decide)
    have hbd := Hok.out.le
    have hto := hp.to_
    have hbs : (d.took f t).bs = d.bs := rfl
    rw [hbs] at hto
    have hval := hp.val
    rw [hbs] at hval
    obtain ⟨m, hm⟩ : ∃ m, F.to_ - F.from_ = m := ⟨_, rfl⟩
    obtain ⟨fm, hfm⟩ : ∃ fm, F.from_ = fm := ⟨_, rfl⟩
    obtain ⟨ba, hba⟩ : ∃ ba, d.base = ba := ⟨_, rfl⟩
    have hle := hp.le
    have hmb : m ≤ 1048576 := by omega
    have hfb : ba + fm + m ≤ 1048576 := by omega
    rw [hm] at q3 hval
    rw [hba] at a1
    rw [hfm] at q2
    have hvl : Hid (m = (F.val d.bs).length) := hval.len
    have hv256 : Hid (∀ x ∈ F.val d.bs, x < 256) := GF.val_bytes Hok.out.byte
    have hw0 : IntKind.i64.wrap ((ba : Int) + (fm : Int)) = ((ba + fm : Nat) : Int) := by rw [IntWalk.i64_in _ (by omega)]; omega
    have HP := hide hP
    have HF1 := hide hP.flt
    have Hbuf := hide hbuf
    have hspec : Hid (recordS d f t = readS f (ba + fm) (F.val d.bs)) := by
      show _ = _
      rw [recordS, hfl]
      simp only [hba, hfm]
    clear hP hT1 hf1 hT hF hix hfl hp hy hbd hto hbs hm hfm hba hle hbuf cn
    go_wp2_with fail
    go_region_held3 (fun w' => w'.cell? ⟨p, 0, none⟩ = some (.pointer (some ⟨pf, 0, none⟩)) ∧ w'.cell? ⟨p, 1, none⟩ = some (.int .i64 (ba : Int)) ∧ w'.cell? ⟨q, 2, none⟩ = some (.int .i64 (fm : Int)) ∧ w'.cell? ⟨q, 3, none⟩ = some (.slice (some ⟨b, o, none⟩) m m)) (go_keep)
      ((go_at_call 135; refine (tread_r _ pf b f (ba + fm) (F.val d.bs) _ m m (by exact HF1.out) (by omega) (Nat.le_refl _) (by omega) hv256.out (by exact hval) (fun b' o' e h0 => by cases e; exact ⟨rfl, Hbuf.out⟩) (by omega) (.inr (by rw [← hvl.out]; exact hfb))).mono ?_; rintro e w2 ⟨r', rfl, hN⟩; have hf2 := hN.fr; have z0 := (hf2.cell (World.block_lt_of_cell? w1 _ a0) np).trans a0; have z1 := (hf2.cell (World.block_lt_of_cell? w1 _ a1) np).trans a1; have z2 := (hf2.cell (World.block_lt_of_cell? w1 _ q2) nq).trans q2; have z3 := (hf2.cell (World.block_lt_of_cell? w1 _ q3) nq).trans q3))
    go_wp2_with fail
    go_ret
    rw [hspec.out]
    exact ⟨r', rfl, HP.out.bad ((Fr.refl _ _).drew.trans hN.fr) hN.flt, hN.tr, fun y hy => Nat.le_trans HP.out.fr.size (hN.new y hy)⟩
  · have hP := TPost.fld hT hF hT1 hf1
    obtain ⟨p, L, n, c, g, ps⟩ := r
    have hs : Hid (recordS d f t = (RD.empty d.base, f)) := by show _ = _; rw [recordS, hfl]
    have a0 : w1.cell? ⟨p, 0, none⟩ = some (.pointer (some ⟨pf, 0, none⟩)) := hT1.bl.cell' rfl
    have a1 : w1.cell? ⟨p, 1, none⟩ = some (.int .i64 (d.base : Int)) := hT1.bl.cell' rfl
    have hbd := Hok.out.le
    obtain ⟨ba, hba⟩ : ∃ ba, d.base = ba := ⟨_, rfl⟩
    rw [hba] at a1 hbd
    have Hba := hide hba
    have HP := hide hP
    clear hP hT1 hf1 hT hF hfl hba cn
    simp only [rp]
    go_wp2_with fail
    refine region_tail 8 (by kernel_rfl) (by kernel_rfl) ?_
    intro w2 Hw2 hcw2 hzw2 hsw2
    simp only [List.take_succ_cons, List.take_zero, List.drop_succ_cons, List.drop_zero]
    repeat still_step
    refine wpStill_nil ?_
    go_wp2_with fail
    go_ret
    rw [hs.out]
    have hf12 : Fr (fun _ => False) w1 w2 := by rw [Hw2.out]; exact (Fr.refl _ _).drew
    refine ⟨⟨w1.heap.size, none, 0, 0, none, []⟩, rfl, HP.out.quiet (hf12.alloc _), ?_, fun y ⟨z, hz, _⟩ => by cases hz⟩
    show TR _ pf b _ (RD.empty d.base)
    rw [Hba.out]
    exact no_parts (Bl.newAt (cs := #[.pointer (some ⟨pf, 0, none⟩), .int .i64 (ba : Int), .slice none 0 0]) hsw2.symm) (by omega)

theorem infoR : (Try.prog.info? 147).map (fun i => (i.zero, i.size, i.bytes)) = some (some (.pointer none), 1, 8) := by kernel_rfl
/-- Readers that came out of a call: what each is, and that they stand apart. -/
structure Rds (w : World) (pf b B : Nat) (rs : List TRd) (ds : List RD) : Prop where
  len : rs.length = ds.length
  tr : ∀ i (hi : i < rs.length) (hj : i < ds.length), TR w pf b rs[i] ds[i]
  new : ∀ r ∈ rs, ∀ y, r.foot y → B ≤ y
  ap : rs.Pairwise fun x y => ∀ z, x.foot z → ¬ y.foot z
theorem Rds.nil_ (w : World) (pf b B : Nat) : Rds w pf b B [] [] := ⟨rfl, (fun i hi => absurd hi (by simp)), (fun r h => by cases h), List.Pairwise.nil⟩
theorem TR.lt {w : World} {pf b : Nat} {r : TRd} {d : RD} (h : TR w pf b r d) : ∀ y, r.foot y → y < w.heap.size := by
  rintro y ⟨z, hz, rfl⟩
  obtain ⟨i, hi, rfl⟩ := List.getElem_of_mem hz
  exact (h.at_ i hi).bl.lt
theorem Rds.fr {w w' : World} {pf b B : Nat} {rs : List TRd} {ds : List RD} {S : Nat → Prop} (h : Rds w pf b B rs ds) (hf : Fr S w w') (hS : Within w S) (hp : ∀ r ∈ rs, ∀ x, r.foot x → ¬ S x) : Rds w' pf b B rs ds :=
  ⟨h.len, fun i hi hj => (h.tr i hi hj).fr hf hS (hp _ (List.getElem_mem hi)), h.new, h.ap⟩
theorem Rds.more {w : World} {pf b B B' : Nat} {rs : List TRd} {ds : List RD} (h : Rds w pf b B rs ds) (hB : B' ≤ B) : Rds w pf b B' rs ds := ⟨h.len, h.tr, fun r hr y hy => Nat.le_trans hB (h.new r hr y hy), h.ap⟩
/-- One more, new in w. -/
theorem Rds.add {w w' : World} {pf b B : Nat} {rs : List TRd} {ds : List RD} {S : Nat → Prop} (h : Rds w pf b B rs ds) (hf : Fr S w w') (hS : Within w S) (hp : ∀ r ∈ rs, ∀ x, r.foot x → ¬ S x) {r : TRd} {d : RD} (hr : TR w' pf b r d) (hn : ∀ y, r.foot y → w.heap.size ≤ y) (hB : B ≤ w.heap.size) : Rds w' pf b B (rs ++ [r]) (ds ++ [d]) := by
  have h' := h.fr hf hS hp
  refine ⟨by simp [h.len], fun i hi hj => ?_, fun x hx y hy => ?_, ?_⟩
  · by_cases hl : i < rs.length
    · rw [List.getElem_append_left hl, List.getElem_append_left (by rw [← h.len]; exact hl)]
      exact h'.tr i hl _
    · have e1 : i = rs.length := by simp at hi; omega
      subst e1
      rw [List.getElem_append_right (Nat.le_refl _), List.getElem_append_right (by rw [← h.len]; exact Nat.le_refl _)]
      simp only [Nat.sub_self, h.len, List.getElem_cons_zero]
      exact hr
  · rcases List.mem_append.1 hx with hx | hx
    · exact h.new x hx y hy
    · simp at hx; subst hx; exact Nat.le_trans hB (hn y hy)
  · rw [List.pairwise_append]
    refine ⟨h.ap, by simp, fun x hx y hy z hz1 hz2 => ?_⟩
    simp at hy; subst hy
    obtain ⟨i, hi, rfl⟩ := List.getElem_of_mem hx
    have := (h.tr i hi (by rw [← h.len]; exact hi)).lt z hz1
    have := hn z hz2
    omega

set_option maxHeartbeats 1000000 in
set_option maxRecDepth 4000 in
theorem clipR_any (w : World) (A : Option Addr) (n c : Nat) (hn : n ≤ c) (hc : c ≤ 9223372036854775807) :
    Calls Try.prog 139 #[.slice A n c] w fun e w' => e = .returned (.slice A n n) ∧ w = w' := by
  have h1 : (n : Int) ≤ c := by omega
  go_enter Try.func139, Try.ntmps139
  go_wp2
  all_goals
    go_ret
    exact ⟨rfl, rfl⟩

theorem Within.flt {w : World} {pf : Nat} {f : RF} (h : Flt w 210 pf f) : Within w (fun x => x = pf) := h.within
/-- The bytes, the items and the place of a field's items. -/
def itBase (d : RD) (x : Option GF × List GF × RF) : Nat := match x.1 with | none => 0 | some F => d.base + F.from_

set_option maxHeartbeats 4000000 in
set_option maxRecDepth 100000 in
theorem trrecords_any (w : World) (pf b : Nat) (r : TRd) (d : RD) (f : RF) (t most : Int) (hT : TR w pf b r d) (hF : Flt w 210 pf f) :
    Calls Try.prog 129 #[rp r.p, .int .i64 t, .int .i64 most] w fun e w' => ∃ rs O k g, e = .returned (.slice O k k) ∧ Ow w' 147 1 O k k (rs.map fun r => rp r.p) g ∧ (∀ b, g = some b → w.heap.size ≤ b) ∧ Rds w' pf b w.heap.size rs (recordsS d f t most).1 ∧ k ≤ 1048576 ∧ TPost w pf b r (d.took f t) (recordsS d f t most).2 w' := by
  obtain ⟨j0, hj, hj0, hj1, hj2⟩ := info_parts infoR
  have hok := hide hT.ok
  show Calls _ _ #[.pointer (some ⟨r.p, 0, none⟩), _, _] _ _
  go_enter Try.func129, Try.ntmps129
  go_wp2_with fail
  refine (tit_any w pf b r d f t most hT hF).mono ?_
  rintro e w1 ⟨at_, vs, ps, L, k, cl, gl, rfl, hI, hP⟩
  have Hk : Hid (k = ps.length) := by
    have := hI.ow.1; simp at this; exact this.symm
  obtain ⟨p, Lr, nr, cr, gr, pr⟩ := r
  obtain ⟨f1, hf1⟩ : ∃ f1, (itS d f t most).2.2 = f1 := ⟨_, rfl⟩
  rw [hf1] at hP
  obtain ⟨Fs, hFs⟩ : ∃ Fs, (itS d f t most).2.1 = Fs := ⟨_, rfl⟩
  have hps : Hid (ps.map (·.2.1) = Fs) := by show _ = _; rw [← hFs]; exact hI.eq
  have hown : Hid (ps = [] ∧ k = 0 ∧ (itS d f t most).1 = none ∨ ∃ F, (itS d f t most).1 = some F ∧ at_ = ((d.base + F.from_ : Nat) : Int) ∧ vs = F.val d.bs ∧ F ∈ d.fs) := by
    show _ ∨ _
    rcases hx : (itS d f t most).1 with _ | F
    · have := hI.nil_ hx
      exact .inl ⟨this, by rw [Hk.out, this]; rfl, rfl⟩
    · obtain ⟨h1, h2, h3⟩ := hI.own F hx
      exact .inr ⟨F, rfl, h1, h2, h3⟩
  obtain ⟨bb, hbb⟩ : ∃ bb : Nat, k = 0 ∨ at_ = (bb : Int) ∧ bb + vs.length ≤ 1048576 := by
    rcases hown.out with ⟨_, h, _⟩ | ⟨F, _, h1, h2, h3⟩
    · exact ⟨0, .inl h⟩
    · have h4 := hok.out.at_ F h3
      have h5 := hok.out.le
      exact ⟨_, .inr ⟨h1, by rw [h2, GF.val_len h4.2.1]; omega⟩⟩
  have hkb : k ≤ 1048576 := by
    rcases hown.out with ⟨_, h, _⟩ | ⟨F, hx, h1, h2, h3⟩
    · omega
    · have h4 := hok.out.at_ F h3
      have h5 := hok.out.le
      have h6 : (itS d f t most).2.1.length ≤ (F.val d.bs).length := by
        have h7 := congrArg List.length hI.eq
        unfold itS at hx ⊢
        split at hx
        · cases hx
        · rename_i F' hfl
          simp only at hx ⊢
          split at hx
          · cases hx
          · rename_i n1
            split at hx
            · cases hx
            · rename_i n2
              cases hx
              rw [if_neg n1, if_neg n2]
              exact itemsAll_len _
      rw [GF.val_len h4.2.1] at h6
      rw [hFs] at h6
      have h8 := congrArg List.length hps.out
      rw [List.length_map] at h8
      rw [Hk.out, h8]; omega
  have h256 : Hid (∀ x ∈ vs, x < 256 ∨ k = 0) := by
    intro x hx
    rcases hown.out with ⟨_, h, _⟩ | ⟨F, _, _, h2, _⟩
    · exact .inr h
    · left; rw [h2] at hx; exact GF.val_bytes hok.out.byte x hx
  have HI := hide hI
  have HP := hide hP
  have a0 : w1.cell? ⟨p, 0, none⟩ = some (.pointer (some ⟨pf, 0, none⟩)) := hP.tr.bl.cell' rfl
  have np : ¬ p = pf := fun e => absurd (hP.tr.bl.typed.same (e ▸ Bl.typed hP.flt)) (by decide)
  have s1 := hP.fr.size
  have Hf1 := hide hf1
  have HFs := hide hFs
  clear hI hP hT hF hf1 hFs
  go_wp2_with fail
  go_loopw [9, 21] (fun u i wr => ∃ (j : Nat) (rs : List TRd) (O : Option Addr) (co : Nat) (g : Option Nat) (ds : List RD) (ff : RF), j ≤ k ∧ i = .int .i64 j ∧ u = .slice O j co ∧ Hid (readersS f1 bb vs (Fs.take j) = (ds, ff)) ∧ Ow wr 147 1 O j co (rs.map fun r => rp r.p) g ∧ (∀ b, g = some b → w1.heap.size ≤ b) ∧ Rds wr pf b w1.heap.size rs ds ∧ Flt wr 210 pf ff ∧ Fr (fun x => x = pf) w1 wr) (fun _ i _ => k - (intOf i).toNat)
  case atStart => exact ⟨0, [], none, 0, none, [], f1, by omega, rfl, rfl, rfl, Ow.nil_ _ _ _, (fun b h => by cases h), Rds.nil_ _ _ _ _, HP.out.flt, Fr.refl _ _⟩
  case round =>
    obtain ⟨j, rs, O, co, g, ds, ff, hjk, rfl, rfl, hsp, hO, hgO, hR, hFl, hf⟩ := hrel
    have hwi := HP.out.flt.within
    by_cases hlt : j < k
    · have hjp : j < ps.length := by rw [← Hk.out]; exact hlt
      obtain ⟨⟨q, F, o'⟩, hy⟩ : ∃ y, ps[j] = y := ⟨_, rfl⟩
      have hmem : (q, F, o') ∈ ps := by rw [← hy]; exact List.getElem_mem hjp
      obtain ⟨hat, hvl⟩ : at_ = (bb : Int) ∧ bb + vs.length ≤ 1048576 := by
        rcases hbb with h | h
        · omega
        · exact h
      have hbuf : Typed w1 b 5 := HI.out.buf (by omega)
      have hbufr : Typed wr b 5 := hbuf.fr hf (hwi.not hbuf (by unfold Turns; decide))
      have hgl0 := HI.out.ow
      obtain ⟨bL, oL, rfl, -, hcL, -⟩ := (hgl0.fr hf (fun b e => hwi.not (hgl0.typed b e) (by unfold Turns; decide))).look (j := j) (u := rp q) (by simp [hjp, hy, ptr, rp])
      have hp0 := HI.out.ins.at_ _ hmem
      simp only at hp0
      have hqn : ¬ q = pf := fun e => absurd (hp0.bl.typed.same (e ▸ Bl.typed HP.out.flt)) (by decide)
      have hp := hp0.fr hf hqn (hwi.not hbuf (by unfold Turns; decide))
      have hFle := hp.to_
      have hFlt := hp.le
      obtain ⟨m, hm⟩ : ∃ m, F.to_ - F.from_ = m := ⟨_, rfl⟩
      obtain ⟨fm, hfm⟩ : ∃ fm, F.from_ = fm := ⟨_, rfl⟩
      have hmn : bb + fm + m ≤ 1048576 := by omega
      have z0 := (hf.cell (World.block_lt_of_cell? w1 _ a0) np).trans a0
      have q2 : wr.cell? ⟨q, 2, none⟩ = some (.int .i64 (fm : Int)) := by rw [← hfm]; exact hp.bl.cell' rfl
      have q3 : wr.cell? ⟨q, 3, none⟩ = some (.slice (some ⟨b, o', none⟩) m m) := by rw [← hm]; exact hp.bl.cell' rfl
      have hV := hp.val
      rw [hm] at hV
      have Hm := hide hm
      have hvl2 : Hid (m = (F.val vs).length) := hV.len
      have hv256 : Hid (∀ x ∈ F.val vs, x < 256) := GF.val_bytes fun x hx => (h256.out x hx).resolve_right (by omega)
      have hcL' : wr.cell? ⟨bL, oL + j, none⟩ = some (.pointer (some ⟨q, 0, none⟩)) := hcL
      have hw0 : IntKind.i64.wrap ((bb : Int) + (fm : Int)) = ((bb + fm : Nat) : Int) := by rw [IntWalk.i64_in _ (by omega)]; omega
      have hFj : Hid (Fs.take (j + 1) = Fs.take j ++ [F]) := by
        show _ = _
        have h1 : j < Fs.length := by rw [← hps.out, List.length_map]; exact hjp
        rw [List.take_succ_eq_append_getElem h1]
        have h2 := map_get hps.out hjp
        rw [List.getElem?_eq_getElem h1, hy] at h2
        rw [← Option.some.inj h2]
      have hspec : Hid (readersS f1 bb vs (Fs.take (j + 1)) = (ds ++ [(readS ff (bb + fm) (F.val vs)).1], (readS ff (bb + fm) (F.val vs)).2)) := by
        show _ = _
        rw [hFj.out, readersS_snoc, hsp.out, hfm]
      have HR := hide hR
      have HFl := hide hFl
      have Hbuf := hide hbufr
      have hgpf : ¬ some pf = g := fun e => by
        have h1 := hO.typed pf e.symm
        exact absurd (h1.same (Bl.typed hFl)) (by decide)
      have hgp : ¬ some p = g := fun e => by
        have := hgO p e.symm
        have := World.block_lt_of_cell? w1 _ a0
        simp at this; omega
      have hgq : ¬ some q = g := fun e => by
        have := hgO q e.symm
        have := hp0.bl.lt
        omega
      subst hat
      have i1 : (0 : Int) ≤ (j : Int) := by omega
      have i2 : (j : Int) < (k : Int) := by omega
      clear hcL hy hm hp hp0 hFle hFlt hmem hjp hgl0 hbuf hbufr hR hFl hfm
      go_wp2_with fail
      go_region_held3 (fun w' => w'.cell? ⟨p, 0, none⟩ = some (.pointer (some ⟨pf, 0, none⟩)) ∧ w'.cell? ⟨q, 2, none⟩ = some (.int .i64 (fm : Int)) ∧ w'.cell? ⟨q, 3, none⟩ = some (.slice (some ⟨b, o', none⟩) m m)) (go_keep)
        (first
          | (go_at_call 135; refine (tread_r _ pf b ff (bb + fm) (F.val vs) _ m m (by exact HFl.out) (by omega) (Nat.le_refl _) (by omega) hv256.out (by exact hV) (fun b' o' e h0 => by cases e; exact ⟨rfl, Hbuf.out⟩) (by omega) (.inr (by rw [← hvl2.out]; exact hmn))).mono ?_; rintro e w2 ⟨r', rfl, hN⟩; simp only [rp]; have hf2 := hN.fr; have y0 := (hf2.cell (World.block_lt_of_cell? wr _ z0) np).trans z0; have y2 := (hf2.cell (World.block_lt_of_cell? wr _ q2) hqn).trans q2; have y3 := (hf2.cell (World.block_lt_of_cell? wr _ q3) hqn).trans q3; have hO2 := hO.fr (S := fun x => x = pf) ((Fr.refl (fun x => x = pf) wr).drew.trans hf2) (fun x e1 e2 => hgpf (by rw [e1, e2])))
          | (refine step_append_ow _ (by rfl) _ _ 199 (by rfl) 147 j0 (.pointer none) 1 8 Try.underlying199 hj hj0 hj1 hj2 rfl (by decide) _ _ _ _ _ (by rfl) (hO2.fr (S := fun _ => False) ((Fr.refl _ _).alloc _) (fun _ _ => id)) _ _ _ [rp r'.p] (by rfl) (Sl.one _ _ _) (by intro u hu; simp at hu; subst hu; rfl) (by unfold maxLen; omega) (by omega) ?_; intro O3 co3 w3 g3 hO3 hf3 hg3; have hf23 := Fr.comp (Fr.alloc (Fr.refl (fun x => some x = g) w2) _) hf3 (fun _ _ e => e); have x0 := (hf23.cell (World.block_lt_of_cell? w2 _ y0) hgp).trans y0; have x2 := (hf23.cell (World.block_lt_of_cell? w2 _ y2) hgq).trans y2; have x3 := (hf23.cell (World.block_lt_of_cell? w2 _ y3) hgq).trans y3))
      go_wp2_with fail
      have hfr2 : Fr (fun x => x = pf) wr w2 := (Fr.refl _ _).drew.trans hN.fr
      have hw23 : ∀ x, some x = g → x < w2.heap.size ∧ ∀ t, Turns t → ¬ Typed w2 x t := fun x e => by
        have h1 := hO2.typed x e.symm
        refine ⟨hO2.lt x e.symm, fun t ht h2 => ?_⟩
        rw [← h1.same h2] at ht
        exact absurd ht (by unfold Turns; decide)
      have hsz := hf.size
      have s2 := hfr2.size
      have hR2 : Rds w2 pf b w1.heap.size (rs ++ [r']) (ds ++ [(readS ff (bb + fm) (F.val vs)).1]) := HR.out.add hfr2 HFl.out.within (fun r hr x hx e => by
        subst e
        obtain ⟨i, hi, rfl⟩ := List.getElem_of_mem hr
        exact HFl.out.notFoot (HR.out.tr i hi (by rw [← HR.out.len]; exact hi)) hx) hN.tr (fun y hy => hN.new y hy) hsz
      have hR3 : Rds w3 pf b w1.heap.size (rs ++ [r']) (ds ++ [(readS ff (bb + fm) (F.val vs)).1]) := by
        refine ⟨hR2.len, fun i hi hj => ?_, hR2.new, hR2.ap⟩
        have h1 := hR2.tr i hi hj
        have hnt : ∀ {x t}, Typed w2 x t → t ≠ 147 → ¬ some x = g := fun h2 hne e => hne (h2.same (hO2.typed _ e.symm))
        exact ⟨h1.bl.fr hf23 (hnt h1.bl.typed (by decide)), h1.ls.fr hf23 (fun b e => hnt (h1.ls.typed b e) (by decide)), h1.eq, fun i hi => (h1.at_ i hi).fr hf23 (hnt (h1.at_ i hi).bl.typed (by decide)) (hnt (h1.buf (by omega)) (by decide)), h1.ord, fun h0 => (h1.buf h0).fr hf23 (hnt (h1.buf h0) (by decide)), h1.ok⟩
      refine ⟨⟨j + 1, rs ++ [r'], O3, co3, g3, _, _, by omega, by go_num, rfl, hspec.out, ?_, fresh_app hgO (by first | omega | (simp; omega)) hg3, hR3, hN.flt.fr hf23 hgpf, ?_⟩, by simp [intOf]; omega⟩
      · rw [List.map_append]; exact hO3
      · exact (hf.trans hfr2).comp hf23 fun x hx e => by have := hgO x e.symm; omega
    · obtain rfl : j = k := by omega
      have hcap := hO.cap
      have hc1 := hcap.1
      have hc4 : co ≤ 9223372036854775807 := by have := hcap.2; unfold maxLen at this; exact this
      have hlen : Hid (j = ds.length) := by
        show _ = _
        have := hO.1; simp at this; rw [← hR.len]; omega
      have z0 := (hf.cell (World.block_lt_of_cell? w1 _ a0) np).trans a0
      have ze : wr.cell? ⟨pf, 1, none⟩ = some (.int .i64 ff.e) := Bl.cell' hFl rfl
      obtain ⟨er, her⟩ : ∃ er, ff.e = er := ⟨_, rfl⟩
      rw [her] at ze
      have Her := hide her
      have hall : Hid (readersS f1 bb vs Fs = (ds, ff)) := by
        show _ = _
        have h1 := hsp.out
        rw [List.take_of_length_le (by rw [← hps.out, List.length_map, ← Hk.out]; exact Nat.le_refl _)] at h1
        exact h1
      have hspec : Hid (recordsS d f t most = if 0 < ds.length ∧ ff.e ≠ 0 then ([], ff) else (ds, ff)) := by
        show _ = _
        unfold recordsS
        simp only [Hf1.out, HFs.out]
        rcases hown.out with ⟨h1, h2, h3⟩ | ⟨F, h3, h1, h2, _⟩
        · rw [h3]
          simp only
          have hFs0 : Fs = [] := by rw [← hps.out, h1]; rfl
          have h9 : readersS f1 bb vs [] = (ds, ff) := by rw [← hFs0]; exact hall.out
          obtain ⟨e1, e2⟩ := Prod.mk.inj (show ([], f1) = (ds, ff) from h9)
          rw [← e1, ← e2]; simp
        · rw [h3]
          simp only
          rcases hbb with hk0 | ⟨hb1, _⟩
          · have hFs0 : Fs = [] := List.eq_nil_of_length_eq_zero (by rw [← hps.out, List.length_map, ← Hk.out]; exact hk0)
            have h9 : readersS f1 bb vs [] = (ds, ff) := by rw [← hFs0]; exact hall.out
            obtain ⟨e1, e2⟩ := Prod.mk.inj (show ([], f1) = (ds, ff) from h9)
            rw [hFs0, ← e1, ← e2]; simp [readersS]
          · have hb2 : bb = d.base + F.from_ := by rw [h1] at hb1; omega
            rw [← h2, ← hb2, hall.out]
      have hPP : TPost w pf b ⟨p, Lr, nr, cr, gr, pr⟩ (d.took f t) ff wr := HP.out.bad hf hFl
      have HPP := hide hPP
      have HR := hide hR
      have HO := hide hO
      clear hcap hlt her hPP hR hO hFl
      by_cases h0 : j = 0
      · subst h0
        have hs : Hid (recordsS d f t most = (ds, ff)) := by show _ = _; rw [hspec.out, if_neg (fun h => by have := hlen.out; omega)]
        go_wp2_with fail
        refine (clipR_any _ O 0 co hc1 hc4).mono ?_
        rintro e w2 ⟨rfl, rfl⟩
        go_wp2_with fail
        go_ret
        rw [hs.out]
        exact ⟨rs, O, 0, g, rfl, HO.out.clip, (fun b e => by have := hgO b e; omega), HR.out.more s1, by omega, HPP.out⟩
      by_cases he : er = 0
      · subst he
        have hs : Hid (recordsS d f t most = (ds, ff)) := by show _ = _; rw [hspec.out, if_neg (fun h => h.2 Her.out)]
        have hj0' : ¬ (j : Int) = 0 := by omega
        have hj1' : (0 : Int) < (j : Int) := by omega
        go_wp2_with fail
        refine (clipR_any _ O j co hc1 hc4).mono ?_
        rintro e w2 ⟨rfl, rfl⟩
        go_wp2_with fail
        go_ret
        rw [hs.out]
        exact ⟨rs, O, j, g, rfl, HO.out.clip, (fun b e => by have := hgO b e; omega), HR.out.more s1, hkb, HPP.out⟩
      · have hs : Hid (recordsS d f t most = ([], ff)) := by show _ = _; rw [hspec.out, if_pos ⟨by rw [← hlen.out]; omega, by rw [Her.out]; exact he⟩]
        have hj1' : (0 : Int) < (j : Int) := by omega
        go_wp2_with fail
        go_ret
        rw [hs.out]
        exact ⟨[], none, 0, none, rfl, Ow.nil_ _ _ _, (fun b h => by cases h), Rds.nil_ _ _ _ _, by omega, HPP.out⟩
end Go.Proofs.Ytlcjhbemgagchaa
