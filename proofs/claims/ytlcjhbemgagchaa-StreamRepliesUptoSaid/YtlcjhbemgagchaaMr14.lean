/-
  Texts merged into one, to keep the claim small: TlvR2.
-/
import Derived.Test.YtlcjhbemgagchaaMr13
/-
  Readers of the program: Number, Raw, Text, Fault.
-/
namespace Go.Proofs.Ytlcjhbemgagchaa
open Go.RowKit
set_option linter.unusedVariables false
attribute [local go_sem ↓] Go.wp_at_zero Go.wp_at_succ

theorem Flt.notFoot {w : World} {pf b : Nat} {r : TRd} {d : RD} {f : RF} (hF : Flt w 210 pf f) (hT : TR w pf b r d) : ¬ r.foot pf := by
  rintro ⟨y, hy, e⟩
  obtain ⟨i, hi, rfl⟩ := List.getElem_of_mem hy
  have := (hT.at_ i hi).bl.typed
  rw [← e] at this
  exact absurd (this.same (Bl.typed hF)) (by decide)
theorem Flt.fr {w w' : World} {t : TypeId} {p : Nat} {f : RF} {S : Nat → Prop} (h : Flt w t p f) (hf : Fr S w w') (hs : ¬ S p) : Flt w' t p f := Bl.fr h hf hs
/-- Behind a call of a reader of the program. -/
structure TPost (w : World) (pf b : Nat) (r : TRd) (d' : RD) (f' : RF) (w' : World) : Prop where
  tr : TR w' pf b r d'
  flt : Flt w' 210 pf f'
  fr : Fr (fun x => x = pf ∨ r.foot x) w w'
theorem Flt.within {w : World} {pf : Nat} {f : RF} (h : Flt w 210 pf f) : Within w (fun x => x = pf) := fun x e => by subst e; exact ⟨_, Bl.typed h, .inl rfl⟩
theorem TR.wrong {w w' : World} {pf b : Nat} {r : TRd} {d : RD} {f : RF} (h : TR w pf b r d) (hF : Flt w 210 pf f) (hf : Fr (fun x => x = pf) w w') : TR w' pf b r d :=
  h.fr hf hF.within fun x hx e => by subst e; exact hF.notFoot h hx
/-- field alone. -/
theorem TPost.fld {w w1 : World} {pf b : Nat} {r : TRd} {d d' : RD} {f : RF} (hT : TR w pf b r d) (hF : Flt w 210 pf f) (h1 : TR w1 pf b r d') (hf : Fr r.foot w w1) : TPost w pf b r d' f w1 :=
  ⟨h1, hF.fr hf (hF.notFoot hT), hf.mono fun _ _ e => .inr e⟩
theorem TPost.quiet {w w1 w2 : World} {pf b : Nat} {r : TRd} {d' : RD} {f : RF} (h : TPost w pf b r d' f w1) (hf : Fr (fun _ => False) w1 w2) : TPost w pf b r d' f w2 :=
  ⟨h.tr.quiet hf, h.flt.fr hf id, h.fr.comp hf fun _ _ e => e.elim⟩
/-- a fault behind it. -/
theorem TPost.bad {w w1 w2 : World} {pf b : Nat} {r : TRd} {d' : RD} {f f' : RF} (h : TPost w pf b r d' f w1) (hf : Fr (fun x => x = pf) w1 w2) (hF : Flt w2 210 pf f') : TPost w pf b r d' f' w2 :=
  ⟨h.tr.wrong h.flt hf, hF, h.fr.comp hf fun _ _ e => .inl e⟩
theorem TPost.refl {w : World} {pf b : Nat} {r : TRd} {d : RD} {f : RF} (hT : TR w pf b r d) (hF : Flt w 210 pf f) : TPost w pf b r d f w := ⟨hT, hF, Fr.refl _ _⟩

set_option maxHeartbeats 4000000 in
set_option maxRecDepth 4000 in
theorem trnum_any (w : World) (pf b : Nat) (r : TRd) (d : RD) (f : RF) (t : Int) (above : Nat) (ha : above < U64) (hT : TR w pf b r d) (hF : Flt w 210 pf f) :
    Calls Try.prog 95 #[rp r.p, .int .i64 t, .int .u64 (above : Int)] w fun e w' => e = .returned (.int .u64 ((numberS d f t above).1 : Int)) ∧ TPost w pf b r (d.took f t) (numberS d f t above).2 w' := by
  go_enter Try.func95, Try.ntmps95
  go_wp2_with fail
  refine (tfield_any w pf b r d f t hT hF).mono ?_
  rintro e w1 ⟨⟨i, hi, hix, hfl, rfl⟩ | ⟨hfl, rfl⟩, hT1, hf1⟩
  · have hP := TPost.fld hT hF hT1 hf1
    obtain ⟨p, L, n, c, g, ps⟩ := r
    obtain ⟨⟨q, F, o⟩, hy⟩ : ∃ y, ps[i]'hi = y := ⟨_, rfl⟩
    have hp := hT1.at_ i hi
    simp only [hy] at hp hfl
    simp only [hy, rp]
    have hok := hT.ok
    have a0 : w1.cell? ⟨p, 0, none⟩ = some (.pointer (some ⟨pf, 0, none⟩)) := hT1.bl.cell' rfl
    have a1 : w1.cell? ⟨p, 1, none⟩ = some (.int .i64 (d.base : Int)) := hT1.bl.cell' rfl
    have q2 : w1.cell? ⟨q, 2, none⟩ = some (.int .i64 (F.from_ : Int)) := hp.bl.cell' rfl
    have q3 : w1.cell? ⟨q, 3, none⟩ = some (.slice (some ⟨b, o, none⟩) (F.to_ - F.from_) (F.to_ - F.from_)) := hp.bl.cell' rfl
    have np : ¬ p = pf := fun e => absurd (hT1.bl.typed.same (e ▸ Bl.typed hP.flt)) (by decide)
    have nq : ¬ q = pf := fun e => absurd (hp.bl.typed.same (e ▸ Bl.typed hP.flt)) (by decide)
    have hbd := hok.le
    have hto := hp.to_
    have hbs : (d.took f t).bs = d.bs := rfl
    rw [hbs] at hto
    have hval := hp.val
    rw [hbs] at hval
    obtain ⟨m, hm⟩ : ∃ m, F.to_ - F.from_ = m := ⟨_, rfl⟩
    obtain ⟨fm, hfm⟩ : ∃ fm, F.from_ = fm := ⟨_, rfl⟩
    obtain ⟨ba, hba⟩ : ∃ ba, d.base = ba := ⟨_, rfl⟩
    have hle := hp.le
    have hmb : m ≤ 1048576 := by omega
    have hfb : ba + fm ≤ 1048576 := by omega
    rw [hm] at q3 hval
    rw [hba] at a1
    rw [hfm] at q2
    have hvl : Hid (m = (F.val d.bs).length) := hval.len
    have hv256 : Hid (∀ x ∈ F.val d.bs, x < 256) := GF.val_bytes hok.byte
    have hw0 : IntKind.i64.wrap ((ba : Int) + (fm : Int)) = (ba : Int) + fm := IntWalk.i64_in _ (by omega)
    obtain ⟨N, hN⟩ : ∃ N, (readShort (F.val d.bs) 0).1 = N := ⟨_, rfl⟩
    obtain ⟨T, hTT⟩ : ∃ T, (readShort (F.val d.bs) 0).2.1 = T := ⟨_, rfl⟩
    obtain ⟨E, hE⟩ : ∃ E, (readShort (F.val d.bs) 0).2.2 = E := ⟨_, rfl⟩
    have hv : Hid (ReadVal (F.val d.bs) 0 = .tuple #[.int .u64 (N : Int), .int .i64 T, .int .i64 E]) := by show _ = _; rw [ReadVal, hN, hTT, hE]
    have HP := hide hP
    have HF1 := hide hP.flt
    have hspec : Hid (numberS d f t above = if E ≠ 0 ∨ T ≠ (m : Int) ∨ N = 0 then (0, f.wrong ((ba : Int) + fm) 20) else if above < N then (0, f.wrong ((ba : Int) + fm) 3) else (N, f)) := by
      show _ = _
      rw [numberS, hfl]
      simp only [hN, hTT, hE, hba, hfm, ← hvl.out]
    clear hP hT1 hf1 hT hF hix hfl hp hy hbd hto hbs hm hfm hba hle hok hN hTT hE
    by_cases hbad : E ≠ 0 ∨ T ≠ (m : Int) ∨ N = 0
    · have hs := hide (hspec.out.trans (if_pos hbad))
      by_cases hE : E = 0
      · subst hE
        by_cases hT : T = (m : Int)
        · subst hT
          have hN : N = 0 := by
            rcases hbad with h | h | h
            · exact absurd rfl h
            · exact absurd rfl h
            · exact h
          subst hN
          clear hbad
          go_wp2_with fail
          refine (tread_any _ (F.val d.bs) _ m m 0 (by omega) hvl.out hv256.out hval).mono ?_
          rintro e w' ⟨rfl, rfl⟩
          rw [hv.out]
          go_wp2_with fail
          go_region_held3 (fun w' => w'.cell? ⟨p, 0, none⟩ = some (.pointer (some ⟨pf, 0, none⟩)) ∧ w'.cell? ⟨p, 1, none⟩ = some (.int .i64 (ba : Int)) ∧ w'.cell? ⟨q, 2, none⟩ = some (.int .i64 (fm : Int))) (go_keep) ((go_at_call 127; refine (twrong_any _ pf f _ _ (by exact HF1.out)).mono ?_; rintro e w2 ⟨rfl, hF2, hf2⟩; have z0 := (hf2.cell (World.block_lt_of_cell? w1 _ a0) np).trans a0; have z1 := (hf2.cell (World.block_lt_of_cell? w1 _ a1) np).trans a1; have z2 := (hf2.cell (World.block_lt_of_cell? w1 _ q2) nq).trans q2))
          go_wp2_with fail
          go_ret
          rw [hs.out]
          exact ⟨rfl, HP.out.bad ((Fr.refl _ _).drew.trans hf2) hF2⟩
        · have hT' : ¬ T = (m : Int) := hT
          clear hbad
          go_wp2_with fail
          refine (tread_any _ (F.val d.bs) _ m m 0 (by omega) hvl.out hv256.out hval).mono ?_
          rintro e w' ⟨rfl, rfl⟩
          rw [hv.out]
          go_wp2_with fail
          go_region_held3 (fun w' => w'.cell? ⟨p, 0, none⟩ = some (.pointer (some ⟨pf, 0, none⟩)) ∧ w'.cell? ⟨p, 1, none⟩ = some (.int .i64 (ba : Int)) ∧ w'.cell? ⟨q, 2, none⟩ = some (.int .i64 (fm : Int))) (go_keep) ((go_at_call 127; refine (twrong_any _ pf f _ _ (by exact HF1.out)).mono ?_; rintro e w2 ⟨rfl, hF2, hf2⟩; have z0 := (hf2.cell (World.block_lt_of_cell? w1 _ a0) np).trans a0; have z1 := (hf2.cell (World.block_lt_of_cell? w1 _ a1) np).trans a1; have z2 := (hf2.cell (World.block_lt_of_cell? w1 _ q2) nq).trans q2))
          go_wp2_with fail
          go_ret
          rw [hs.out]
          exact ⟨rfl, HP.out.bad ((Fr.refl _ _).drew.trans hf2) hF2⟩
      · clear hbad
        go_wp2_with fail
        refine (tread_any _ (F.val d.bs) _ m m 0 (by omega) hvl.out hv256.out hval).mono ?_
        rintro e w' ⟨rfl, rfl⟩
        rw [hv.out]
        go_wp2_with fail
        go_region_held3 (fun w' => w'.cell? ⟨p, 0, none⟩ = some (.pointer (some ⟨pf, 0, none⟩)) ∧ w'.cell? ⟨p, 1, none⟩ = some (.int .i64 (ba : Int)) ∧ w'.cell? ⟨q, 2, none⟩ = some (.int .i64 (fm : Int))) (go_keep) ((go_at_call 127; refine (twrong_any _ pf f _ _ (by exact HF1.out)).mono ?_; rintro e w2 ⟨rfl, hF2, hf2⟩; have z0 := (hf2.cell (World.block_lt_of_cell? w1 _ a0) np).trans a0; have z1 := (hf2.cell (World.block_lt_of_cell? w1 _ a1) np).trans a1; have z2 := (hf2.cell (World.block_lt_of_cell? w1 _ q2) nq).trans q2))
        go_wp2_with fail
        go_ret
        rw [hs.out]
        exact ⟨rfl, HP.out.bad ((Fr.refl _ _).drew.trans hf2) hF2⟩
    · have hE : E = 0 := Classical.not_not.1 fun h => hbad (.inl h)
      have hT : T = (m : Int) := Classical.not_not.1 fun h => hbad (.inr (.inl h))
      have hN : ¬ N = 0 := fun h => hbad (.inr (.inr h))
      have hN' : ¬ (N : Int) = 0 := by omega
      have hs0 := hide (hspec.out.trans (if_neg hbad))
      subst hE hT
      clear hbad
      by_cases hab : above < N
      · have hs := hide (hs0.out.trans (if_pos hab))
        have hab' : (above : Int) < (N : Int) := by omega
        go_wp2_with fail
        refine (tread_any _ (F.val d.bs) _ m m 0 (by omega) hvl.out hv256.out hval).mono ?_
        rintro e w' ⟨rfl, rfl⟩
        rw [hv.out]
        go_wp2_with fail
        go_region_held3 (fun w' => w'.cell? ⟨p, 0, none⟩ = some (.pointer (some ⟨pf, 0, none⟩)) ∧ w'.cell? ⟨p, 1, none⟩ = some (.int .i64 (ba : Int)) ∧ w'.cell? ⟨q, 2, none⟩ = some (.int .i64 (fm : Int))) (go_keep) ((go_at_call 127; refine (twrong_any _ pf f _ _ (by exact HF1.out)).mono ?_; rintro e w2 ⟨rfl, hF2, hf2⟩; have z0 := (hf2.cell (World.block_lt_of_cell? w1 _ a0) np).trans a0; have z1 := (hf2.cell (World.block_lt_of_cell? w1 _ a1) np).trans a1; have z2 := (hf2.cell (World.block_lt_of_cell? w1 _ q2) nq).trans q2))
        go_wp2_with fail
        go_ret
        rw [hs.out]
        exact ⟨rfl, HP.out.bad ((Fr.refl _ _).drew.trans hf2) hF2⟩
      · have hs := hide (hs0.out.trans (if_neg hab))
        have hab' : ¬ (above : Int) < (N : Int) := by omega
        go_wp2_with fail
        refine (tread_any _ (F.val d.bs) _ m m 0 (by omega) hvl.out hv256.out hval).mono ?_
        rintro e w' ⟨rfl, rfl⟩
        rw [hv.out]
        go_wp2_with fail
        go_ret
        rw [hs.out]
        exact ⟨rfl, HP.out⟩
  · have hs : Hid (numberS d f t above = (0, f)) := by show _ = _; rw [numberS, hfl]
    go_wp2_with fail
    go_ret
    rw [hs.out]
    exact ⟨rfl, TPost.fld hT hF hT1 hf1⟩

/-- Bytes that are answered, in whatever memory. -/
def RawOut (v : List Nat) (e : Ending) (w' : World) : Prop := ∃ A n c, e = .returned (.slice A n c) ∧ n ≤ 1048576 ∧ Sl w' 1 A n (v.map bn) ∧ (∀ x ∈ v, x < 256)
set_option maxHeartbeats 4000000 in
set_option maxRecDepth 4000 in
theorem traw0_any (w : World) (pf b : Nat) (r : TRd) (d : RD) (f : RF) (t most : Int) (hT : TR w pf b r d) (hF : Flt w 210 pf f) :
    Calls Try.prog 123 #[rp r.p, .int .i64 t, .int .i64 most] w fun e w' => RawOut (rawS d f t most).1 e w' ∧ TPost w pf b r (d.took f t) (rawS d f t most).2 w' := by
  go_enter Try.func123, Try.ntmps123
  go_wp2_with fail
  refine (tfield_any w pf b r d f t hT hF).mono ?_
  rintro e w1 ⟨⟨i, hi, hix, hfl, rfl⟩ | ⟨hfl, rfl⟩, hT1, hf1⟩
  · have hP := TPost.fld hT hF hT1 hf1
    obtain ⟨p, L, n, c, g, ps⟩ := r
    obtain ⟨⟨q, F, o⟩, hy⟩ : ∃ y, ps[i]'hi = y := ⟨_, rfl⟩
    have hp := hT1.at_ i hi
    simp only [hy] at hp hfl
    simp only [hy, rp]
    have hok := hT.ok
    have a0 : w1.cell? ⟨p, 0, none⟩ = some (.pointer (some ⟨pf, 0, none⟩)) := hT1.bl.cell' rfl
    have a1 : w1.cell? ⟨p, 1, none⟩ = some (.int .i64 (d.base : Int)) := hT1.bl.cell' rfl
    have q2 : w1.cell? ⟨q, 2, none⟩ = some (.int .i64 (F.from_ : Int)) := hp.bl.cell' rfl
    have q3 : w1.cell? ⟨q, 3, none⟩ = some (.slice (some ⟨b, o, none⟩) (F.to_ - F.from_) (F.to_ - F.from_)) := hp.bl.cell' rfl
    have np : ¬ p = pf := fun e => absurd (hT1.bl.typed.same (e ▸ Bl.typed hP.flt)) (by decide)
    have nq : ¬ q = pf := fun e => absurd (hp.bl.typed.same (e ▸ Bl.typed hP.flt)) (by decide)
    have hbd := hok.le
    have hto := hp.to_
    have hbs : (d.took f t).bs = d.bs := rfl
    rw [hbs] at hto
    have hval := hp.val
    rw [hbs] at hval
    obtain ⟨m, hm⟩ : ∃ m, F.to_ - F.from_ = m := ⟨_, rfl⟩
    obtain ⟨fm, hfm⟩ : ∃ fm, F.from_ = fm := ⟨_, rfl⟩
    obtain ⟨ba, hba⟩ : ∃ ba, d.base = ba := ⟨_, rfl⟩
    have hle := hp.le
    have hmb : m ≤ 1048576 := by omega
    have hfb : ba + fm ≤ 1048576 := by omega
    rw [hm] at q3 hval
    rw [hba] at a1
    rw [hfm] at q2
    have hvl : Hid (m = (F.val d.bs).length) := hval.len
    have hv256 : Hid (∀ x ∈ F.val d.bs, x < 256) := GF.val_bytes hok.byte
    have hw0 : IntKind.i64.wrap ((ba : Int) + (fm : Int)) = (ba : Int) + fm := IntWalk.i64_in _ (by omega)
    have HP := hide hP
    have HF1 := hide hP.flt
    have hspec : Hid (rawS d f t most = if max most 0 < (m : Int) then ([], f.wrong ((ba : Int) + fm) 3) else (F.val d.bs, f)) := by
      show _ = _
      rw [rawS, hfl]
      simp only [hba, hfm, ← hvl.out]
    clear hP hT1 hf1 hT hF hix hfl hp hy hbd hto hbs hm hfm hba hle hok
    have hmx : (most < 0 ∧ max most 0 = 0) ∨ (¬ most < 0 ∧ max most 0 = most) := by omega
    by_cases hbad : max most 0 < (m : Int)
    · have hs := hide (hspec.out.trans (if_pos hbad))
      rcases hmx with ⟨h1, h2⟩ | ⟨h1, h2⟩
      all_goals
        rw [h2] at hbad
        clear h2
        go_wp2_with fail
        go_region_held3 (fun w' => w'.cell? ⟨p, 0, none⟩ = some (.pointer (some ⟨pf, 0, none⟩)) ∧ w'.cell? ⟨p, 1, none⟩ = some (.int .i64 (ba : Int)) ∧ w'.cell? ⟨q, 2, none⟩ = some (.int .i64 (fm : Int))) (go_keep) ((go_at_call 127; refine (twrong_any _ pf f _ _ (by exact HF1.out)).mono ?_; rintro e w2 ⟨rfl, hF2, hf2⟩; have z0 := (hf2.cell (World.block_lt_of_cell? w1 _ a0) np).trans a0; have z1 := (hf2.cell (World.block_lt_of_cell? w1 _ a1) np).trans a1; have z2 := (hf2.cell (World.block_lt_of_cell? w1 _ q2) nq).trans q2))
        go_wp2_with fail
        go_ret
        rw [hs.out]
        exact ⟨⟨none, 0, 0, rfl, by omega, Sl.nil_ _ _ _, (fun x h => by cases h)⟩, HP.out.bad ((Fr.refl _ _).drew.trans hf2) hF2⟩
    · have hs := hide (hspec.out.trans (if_neg hbad))
      rcases hmx with ⟨h1, h2⟩ | ⟨h1, h2⟩
      all_goals
        rw [h2] at hbad
        clear h2
        go_wp2_with fail
        go_ret
        rw [hs.out]
        exact ⟨⟨_, m, m, rfl, hmb, hval, hv256.out⟩, HP.out⟩
  · have hs : Hid (rawS d f t most = ([], f)) := by show _ = _; rw [rawS, hfl]
    go_wp2_with fail
    go_ret
    rw [hs.out]
    exact ⟨⟨none, 0, 0, rfl, by omega, Sl.nil_ _ _ _, (fun x h => by cases h)⟩, TPost.fld hT hF hT1 hf1⟩

set_option maxHeartbeats 2000000 in
set_option maxRecDepth 4000 in
theorem trtext_any (w : World) (pf b : Nat) (r : TRd) (d : RD) (f : RF) (t most : Int) (hT : TR w pf b r d) (hF : Flt w 210 pf f) :
    Calls Try.prog 92 #[rp r.p, .int .i64 t, .int .i64 most] w fun e w' => e = .returned (.string (strOf (rawS d f t most).1)) ∧ TPost w pf b r (d.took f t) (rawS d f t most).2 w' := by
  go_enter Try.func92, Try.ntmps92
  go_wp2_with fail
  refine (traw0_any w pf b r d f t most hT hF).mono ?_
  rintro e w1 ⟨⟨A, n, c, rfl, hn, hS, h256⟩, hP⟩
  have hcv := conv_bs w1 A n c _ h256 hS
  go_wp2_with fail
  go_ret
  exact ⟨rfl, hP⟩

set_option maxHeartbeats 2000000 in
set_option maxRecDepth 4000 in
theorem tfault_any (w : World) (pf b : Nat) (r : TRd) (d : RD) (f : RF) (hT : TR w pf b r d) (hF : Flt w 210 pf f) :
    Calls Try.prog 140 #[rp r.p] w fun e w' => e = .returned (.tuple #[.int .i64 f.place, .int .i64 f.e]) ∧ Fr (fun _ => False) w w' := by
  obtain ⟨p, L, n, c, g, ps⟩ := r
  have c0 : w.cell? ⟨p, 0, none⟩ = some (.pointer (some ⟨pf, 0, none⟩)) := hT.bl.cell' rfl
  have e0 : w.cell? ⟨pf, 0, none⟩ = some (.int .i64 f.place) := Bl.cell' hF rfl
  have e1 : w.cell? ⟨pf, 1, none⟩ = some (.int .i64 f.e) := Bl.cell' hF rfl
  clear hT hF
  show Calls _ _ #[.pointer (some ⟨p, 0, none⟩)] _ _
  go_enter Try.func140, Try.ntmps140
  go_wp2_with fail
  refine (none_some w p pf c0).mono ?_
  rintro e w' ⟨rfl, rfl⟩
  go_wp2_with fail
  go_quiet (fail)
  go_wp2_with fail
  go_ret2
  exact ⟨rfl, (Fr.refl _ _).drewN _⟩
set_option maxHeartbeats 1000000 in
set_option maxRecDepth 4000 in
theorem tfault_nil (w : World) : Calls Try.prog 140 #[.pointer none] w fun e w' => e = .returned (.tuple #[.int .i64 0, .int .i64 1]) ∧ w = w' := by
  go_enter Try.func140, Try.ntmps140
  go_wp2_with fail
  refine (none_nil w).mono ?_
  rintro e w' ⟨rfl, rfl⟩
  go_wp2_with fail
  go_ret2
  exact ⟨rfl, rfl⟩
end Go.Proofs.Ytlcjhbemgagchaa
