/-
  Save: the walk.
-/
import Derived.Test.YtchajbiloaiekaaSl9
namespace Go.Proofs.Ytchajbiloaiekaa
open Go.RowKit
set_option linter.unusedVariables false
/-- Within Save. -/
structure SV (w : World) (q p fr n t0 t1 N s0 s1 : Nat) (F : Nat → Prop) (s : DS) (wx : World) (F1 : Nat → Prop) (d : DS) (a : Nat) : Prop where
  k : DKeep w p N F s wx F1 d a
  b0 : Bl wx s0 tPSt #[.pointer (some ⟨q, 0, none⟩)]
  b1 : Bl wx s1 tEn #[.int .i64 0]
  st : SAt wx q p fr n t0 t1
  n0 : ¬ F1 s0
  n1 : ¬ F1 s1
  nq : ¬ F1 q
section
variable {w wx wy : World} {q p fr n t0 t1 N s0 s1 a : Nat} {F F1 : Nat → Prop} {s d d2 : DS}
theorem SV.quiet (h : SV w q p fr n t0 t1 N s0 s1 F s wx F1 d a) (hf : Fr (fun _ => False) wx wy) : SV w q p fr n t0 t1 N s0 s1 F s wy F1 d a :=
  ⟨h.k.quiet hf, h.b0.fr hf id, h.b1.fr hf id, h.st.fr hf id, h.n0, h.n1, h.nq⟩
theorem SV.out (h : SV w q p fr n t0 t1 N s0 s1 F s wx F1 d a) (ho : DOut wx p N F1 d2 wy) (hf : d2.fuse = -1) (hw : d2.wr ≤ d.wr + 1) (hy : d2.sy ≤ d.sy + 1) : ∃ F2, SV w q p fr n t0 t1 N s0 s1 F s wy F2 d2 (a + 1) := by
  obtain ⟨F2, hk, h2, h3⟩ := h.k.out ho hf hw hy
  exact ⟨F2, hk, h.b0.fr h2 h.n0, h.b1.fr h2 h.n1, h.st.fr h2 h.nq, fun e => h.n0 (h3 _ h.b0.lt e), fun e => h.n1 (h3 _ h.b1.lt e), fun e => h.nq (h3 _ (show q < wx.heap.size from Bl.lt h.st) e)⟩
end
theorem SV.far {w wx wy : World} {q p fr n t0 t1 N s0 s1 a b : Nat} {F F1 : Nat → Prop} {s d : DS} (h : SV w q p fr n t0 t1 N s0 s1 F s wx F1 d a) (hf : Fr (fun x => x = b) wx wy) (hb : ¬ F1 b) (h0 : s0 ≠ b) (h1 : s1 ≠ b) (hq : q ≠ b) (hw : w.heap.size ≤ b) : SV w q p fr n t0 t1 N s0 s1 F s wy F1 d a :=
  ⟨h.k.far hf hb hw, h.b0.fr hf h0, h.b1.fr hf h1, h.st.fr hf hq, h.n0, h.n1, h.nq⟩
theorem zdrop (L : Nat) : zeroS.drop L = (zeros (64 - L)).map bn := by unfold zeroS zeros; rw [List.drop_replicate, List.map_replicate]; rfl
/-- What Save leaves. -/
def SaveOut (w : World) (q p fr n t0 t1 N : Nat) (F : Nat → Prop) (s : DS) (pic : List Nat) (e : Ending) (w' : World) : Prop :=
  e = .returned (.int .i64 0) ∧ ∃ F' s', DI w' p N F' s' ∧ s'.fuse = -1 ∧ s'.row = [] ∧ (∀ k, k < N → s'.told k = saveT s.told (fr + (max t0 t1 + 1) % 2 * n) (max t0 t1 + 1) pic k) ∧
    SAt w' q p fr n (if (max t0 t1 + 1) % 2 = 0 then max t0 t1 + 1 else t0) (if (max t0 t1 + 1) % 2 = 1 then max t0 t1 + 1 else t1) ∧ (∀ k, k < w.heap.size → F' k → F k) ∧ Fr (fun x => F x ∨ x = q) w w' ∧ s'.wr ≤ s.wr + 70000 ∧ s'.sy ≤ s.sy + 70000
section
variable {w : World} {q p fr n t0 t1 N : Nat} {F : Nat → Prop} {s : DS}
set_option maxHeartbeats 8000000 in
set_option maxRecDepth 100000 in
theorem save_any (h : SAt w q p fr n t0 t1) (hd : DI w p N F s) (hf : s.fuse = -1) (hrow : s.row = []) (hn : 2 ≤ n) (hb : fr + 2 * n ≤ N) (A : Option Addr) (m c : Nat) (pic : List Nat) (hx : ∀ x ∈ pic, x < 256) (hl : pic.length = m) (hmc : m ≤ c) (hm : m ≤ 64 * (n - 1)) (hA : Sl w 1 A m (pic.map bn))
    (hap : ∀ b, (∃ o, A = some ⟨b, o, none⟩) → ¬ F b) (hq : ¬ F q) (ht : max t0 t1 < 1099511627776) (hwr : s.wr < 7000000000000000000) (hsy : s.sy < 7000000000000000000) :
    Calls Try.prog 12 #[.pointer (some ⟨q, 0, none⟩), .slice A m c] w (SaveOut w q p fr n t0 t1 N F s pic) := by
  have hN : N ≤ 65536 := hd.ok.n2
  have hOk := hd.ok
  obtain ⟨s0, hs0⟩ : ∃ s0, w.heap.size = s0 := ⟨_, rfl⟩
  obtain ⟨s1, hs1⟩ : ∃ s1, s0 + 1 = s1 := ⟨_, rfl⟩
  have hf1 : Fr (fun _ => False) w ((w.alloc (.cells #[.pointer (some ⟨q, 0, none⟩)] 30)).alloc (.cells #[.int .i64 0] 27)) := ((Fr.refl _ _).alloc _).alloc _
  have hV : Hid (SV w q p fr n t0 t1 N s0 s1 F s ((w.alloc (.cells #[.pointer (some ⟨q, 0, none⟩)] 30)).alloc (.cells #[.int .i64 0] 27)) F s 0) := by
    refine ⟨(DKeep.refl hd hf).quiet hf1, (Bl.newAt hs0.symm).alloc _, Bl.newAt (by simp [hs0, ← hs1]), h.fr hf1 id, fun e => ?_, fun e => ?_, hq⟩
    · have := hd.lt e; omega
    · have := hd.lt e; omega
  have hAW : Hid (∀ W, Fr F w W → Sl W 1 A m (pic.map bn)) := fun W hW => hA.fr (B := 0) hW (fun b ⟨o, e⟩ hb => hap b ⟨o, e⟩)
  have HX := hide (And.intro hx (And.intro hl hOk))
  obtain ⟨tx, htx⟩ : ∃ tx, max t0 t1 = tx := ⟨_, rfl⟩
  have hqw : Hid (q < w.heap.size) := Bl.lt h
  have hsw : Hid (w.heap.size = s0 ∧ s0 + 1 = s1) := ⟨hs0, hs1⟩
  obtain ⟨PO, hPO⟩ : ∃ PO, SaveOut w q p fr n t0 t1 N F s pic = PO := ⟨_, rfl⟩
  rw [hPO]
  have HPO := hide hPO
  clear hPO
  rw [htx] at ht
  have Hwy := hide (And.intro hwr hsy)
  have hmo := most_any (hV.out.st) (by omega)
  obtain ⟨ms, hms⟩ : ∃ ms, 64 * (n - 1) = ms := ⟨_, rfl⟩
  rw [hms] at hmo
  have i1 : ¬ (ms : Int) < (m : Int) := by omega
  have i2 : decide ((1099511627776 : Int) ≤ (tx : Int)) = false := decide_eq_false (by omega)
  have i3 : IntKind.i64.wrap ((tx : Int) + 1) = ((tx + 1 : Nat) : Int) := by rw [show (tx : Int) + 1 = ((tx + 1 : Nat) : Int) by omega]; exact IntWalk.i64_in _ (by omega)
  obtain ⟨t, htt⟩ : ∃ t, tx + 1 = t := ⟨_, rfl⟩
  rw [htt] at i3
  obtain ⟨r, hr⟩ : ∃ r, t % 2 = r := ⟨_, rfl⟩
  have i4 : (t : Int).tmod 2 = (r : Int) := by rw [Int.tmod_eq_emod_of_nonneg (by omega)]; omega
  have hr1 : r ≤ 1 := by omega
  obtain ⟨at_, hat⟩ : ∃ at_, fr + r * n = at_ := ⟨_, rfl⟩
  have hrn : r * n ≤ n := by have := Nat.mul_le_mul_right n hr1; omega
  have hatN : at_ + n ≤ N := by omega
  have cd := (show Bl _ q tStill _ from hV.out.st).cell' (i := 5) (v := .bool false) rfl
  have kp := hV.out.b0.cell' (i := 0) (v := .pointer (some ⟨q, 0, none⟩)) rfl
  have hmf' := hmf
  have Htt := hide (And.intro htx (And.intro htt (And.intro hr (And.intro hat (And.intro hms hrow)))))
  clear h hd hx hl hA hap hq hwr hsy hs0 hs1 hf1 hOk htx htt hr hat hms hrow
  go_enter_defers Try.func12, Try.ntmps12
  go_wp2_with fail
  generalize hw1 : (w.alloc (.cells #[.pointer (some ⟨q, 0, none⟩)] 30)).alloc (.cells #[.int .i64 0] 27) = w1 at hV hmo cd kp ⊢
  clear hw1
  rw [hsw.out.1, hsw.out.2]
  refine hmo.mono ?_
  rintro e w2 ⟨rfl, hf2⟩
  have hV2 := hide (hV.out.quiet hf2)
  have htu := turn_any hV2.out.st
  rw [Htt.out.1] at htu
  have kp2 := hV2.out.b0.cell' (i := 0) (v := .pointer (some ⟨q, 0, none⟩)) rfl
  clear hV hf2 kp cd hmo
  go_wp2_with fail
  refine htu.mono ?_
  rintro e w3 ⟨rfl, hf3⟩
  have hV3 := hide (hV2.out.quiet hf3)
  have htu := turn_any hV3.out.st
  rw [Htt.out.1] at htu
  have kp3 := hV3.out.b0.cell' (i := 0) (v := .pointer (some ⟨q, 0, none⟩)) rfl
  clear hV2 hf3 kp2
  go_wp2_with fail
  refine htu.mono ?_
  rintro e w4 ⟨rfl, hf4⟩
  have hV4 := hide (hV3.out.quiet hf4)
  have hfi := first_any hV4.out.st (by omega) (by omega) r hr1
  rw [Htt.out.2.2.2.1] at hfi
  have kp4 := hV4.out.b0.cell' (i := 0) (v := .pointer (some ⟨q, 0, none⟩)) rfl
  clear hV3 hf4 kp3 htu
  go_wp2_with fail
  refine hfi.mono ?_
  rintro e w5 ⟨rfl, hf5⟩
  have hV5 := hide (hV4.out.quiet hf5)
  have hrd := sread_any hV5.out.st hV5.out.k.di hf at_ (by omega)
  have kp5 := hV5.out.b0.cell' (i := 0) (v := .pointer (some ⟨q, 0, none⟩)) rfl
  clear hV4 hf5 kp4 hfi
  go_wp2_with fail
  refine hrd.mono ?_
  rintro e w6 ⟨rfl, hf6⟩
  have hV6 := hide (hV5.out.quiet hf6)
  have kp6 := hV6.out.b0.cell' (i := 0) (v := .pointer (some ⟨q, 0, none⟩)) rfl
  have hTl := told_len hV6.out.k.di.ok (show at_ < N by omega)
  have hgd : Try.prog.eqGuardType Try.prog.depth 61 = false := by kernel_rfl
  have hZl : (zeros 64).length = 64 := by simp [zeros]
  have heq := fun w2 => seck_eq w2 (s.told at_) (zeros 64) hTl hZl
  have hz0 : ((zeros 64).map bn).toArray = (#[.int .u8 0, .int .u8 0, .int .u8 0, .int .u8 0, .int .u8 0, .int .u8 0, .int .u8 0, .int .u8 0, .int .u8 0, .int .u8 0, .int .u8 0, .int .u8 0, .int .u8 0, .int .u8 0, .int .u8 0, .int .u8 0, .int .u8 0, .int .u8 0, .int .u8 0, .int .u8 0, .int .u8 0, .int .u8 0, .int .u8 0, .int .u8 0, .int .u8 0, .int .u8 0, .int .u8 0, .int .u8 0, .int .u8 0, .int .u8 0, .int .u8 0, .int .u8 0, .int .u8 0, .int .u8 0, .int .u8 0, .int .u8 0, .int .u8 0, .int .u8 0, .int .u8 0, .int .u8 0, .int .u8 0, .int .u8 0, .int .u8 0, .int .u8 0, .int .u8 0, .int .u8 0, .int .u8 0, .int .u8 0, .int .u8 0, .int .u8 0, .int .u8 0, .int .u8 0, .int .u8 0, .int .u8 0, .int .u8 0, .int .u8 0, .int .u8 0, .int .u8 0, .int .u8 0, .int .u8 0, .int .u8 0, .int .u8 0, .int .u8 0, .int .u8 0] : Array Value) := rfl
  rw [hz0] at heq
  obtain ⟨Ts, hTs⟩ : ∃ Ts, s.told at_ = Ts := ⟨_, rfl⟩
  rw [hTs] at heq hTl ⊢
  obtain ⟨TN, hTN⟩ : ∃ TN, Ts.map bn = TN := ⟨_, rfl⟩
  rw [hTN] at heq ⊢
  have HT := hide (And.intro hTs (And.intro hTl hTN))
  clear hV5 hf6 kp5 hrd hTs hTl hTN hZl hz0
  obtain ⟨bz, hbz⟩ : ∃ bz, decide (Ts = zeros 64) = bz := ⟨_, rfl⟩
  rw [hbz] at heq
  have Hbz := hide hbz
  clear hbz
  go_upto_if 39 with fail
  go_cut [] from 40 to 49 (fun wx => ∃ F1 d a, SV w q p fr n t0 t1 N s0 s1 F s wx F1 d a ∧ d.row = [] ∧ a ≤ 2 ∧ (∀ k, k < N → k ≠ at_ → d.told k = s.told k))
  case first =>
    obtain ⟨hTs, hTl, hTN⟩ := HT.out
    have hrow := Htt.out.2.2.2.2.2
    cases bz with
    | true =>
      have hz := of_decide_eq_true Hbz.out
      have fin : Hid (∃ F1 d a, SV w q p fr n t0 t1 N s0 s1 F s w6 F1 d a ∧ d.row = [] ∧ a ≤ 2 ∧ (∀ k, k < N → k ≠ at_ → d.told k = s.told k)) := ⟨F, s, 0, hV6.out, hrow, by omega, fun _ _ _ => rfl⟩
      clear hTs hTl hTN hrow hz
      go_wp2_with fail
      go_meet
      case rel => exact fin.out
    | false =>
      have hw0 : s.wr < 8000000000000000000 := by have := Hwy.out.1; omega
      have hwz := swrite_any hV6.out.st hV6.out.k.di hf at_ (by omega) (zeros 64) (by simp [zeros]) (by rw [hrow]; simp) hw0 hV6.out.nq
      have hz0 : ((zeros 64).map bn).toArray = (#[.int .u8 0, .int .u8 0, .int .u8 0, .int .u8 0, .int .u8 0, .int .u8 0, .int .u8 0, .int .u8 0, .int .u8 0, .int .u8 0, .int .u8 0, .int .u8 0, .int .u8 0, .int .u8 0, .int .u8 0, .int .u8 0, .int .u8 0, .int .u8 0, .int .u8 0, .int .u8 0, .int .u8 0, .int .u8 0, .int .u8 0, .int .u8 0, .int .u8 0, .int .u8 0, .int .u8 0, .int .u8 0, .int .u8 0, .int .u8 0, .int .u8 0, .int .u8 0, .int .u8 0, .int .u8 0, .int .u8 0, .int .u8 0, .int .u8 0, .int .u8 0, .int .u8 0, .int .u8 0, .int .u8 0, .int .u8 0, .int .u8 0, .int .u8 0, .int .u8 0, .int .u8 0, .int .u8 0, .int .u8 0, .int .u8 0, .int .u8 0, .int .u8 0, .int .u8 0, .int .u8 0, .int .u8 0, .int .u8 0, .int .u8 0, .int .u8 0, .int .u8 0, .int .u8 0, .int .u8 0, .int .u8 0, .int .u8 0, .int .u8 0, .int .u8 0] : Array Value) := rfl
      rw [hz0] at hwz
      clear hTs hTl hTN hz0 hw0
      have Hrow := hide hrow
      clear hrow
      go_wp2_with fail
      refine hwz.mono ?_
      rintro e w7 ⟨rfl, ho7⟩
      obtain ⟨F7, hV7⟩ := hV6.out.out ho7 (write_fz hf _ _) (by simp [DS.write]) (by simp [DS.write])
      have HV7 := hide hV7
      have kp7 := hV7.b0.cell' (i := 0) (v := .pointer (some ⟨q, 0, none⟩)) rfl
      have cp7 := (show Bl _ q tStill _ from hV7.st).cell' (i := 0) (v := .pointer (some ⟨p, 0, none⟩)) rfl
      have hsyc := ssync_any hV7.k.di hV7.k.fz (by have := hV7.k.sy; have := Hwy.out.2; omega)
      clear hwz ho7 hV7 kp6
      go_wp2_with fail
      refine hsyc.mono ?_
      rintro e w8 ⟨rfl, ho8⟩
      obtain ⟨F8, hV8⟩ := HV7.out.out ho8 (sync_fz HV7.out.k.fz) (by simp [DS.sync]) (by simp [DS.sync])
      have HV8 := hide hV8
      clear hsyc ho8 hV8 kp7 cp7
      go_wp2_with fail
      refine (must_ok w8).mono ?_
      rintro e w9 ⟨rfl, rfl⟩
      have fin : Hid (∃ F1 d a, SV w q p fr n t0 t1 N s0 s1 F s w8 F1 d a ∧ d.row = [] ∧ a ≤ 2 ∧ (∀ k, k < N → k ≠ at_ → d.told k = s.told k)) := ⟨F8, _, _, HV8.out, rfl, by omega, fun k hk hne => by
        rw [told_sync HV7.out.k.di.ok hk, told_write, if_neg (fun e => hne e.symm)]⟩
      clear HV7 HV8 Hrow
      go_wp2_with fail
      go_meet
      case rel => exact fin.out
  case rest =>
    obtain ⟨F1, d, a, hV, hdr, ha, hdt⟩ := hcut
    clear hV6 kp6 HT Hbz hgd
    have HV := hide (And.intro hV (And.intro hdr (And.intro ha hdt)))
    clear hV hdr ha hdt
    go_wp2_with fail
    go_loopw [7] (fun i wr => ∃ (j z a2 : Nat) (F2 : Nat → Prop) (d2 : DS), i = .int .i64 (z : Int) ∧ z = 64 * j ∧ 64 * j < m + 64 ∧ SV w q p fr n t0 t1 N s0 s1 F s wr F2 d2 a2 ∧ d2.row.length ≤ j ∧ a2 ≤ 2 + j ∧ (∀ k, k < N → k ≠ at_ → d2.told k = laidT s.told at_ pic j k)) (fun i _ => m + 64 - (intOf i).toNat)
    case atStart =>
      obtain ⟨hV, hdr, ha, hdt⟩ := HV.out
      exact ⟨0, 0, a, F1, d, rfl, rfl, by omega, hV, by rw [hdr]; exact Nat.le_refl _, by omega, fun k hk hne => by rw [laidT_zero]; exact hdt k hk hne⟩
    case round =>
      obtain ⟨j, z, a2, F2, d2, rfl, hz, hj, hV, hrl, ha2, hdt⟩ := hrel
      clear HV
      obtain ⟨hx, hl, hOk⟩ := HX.out
      by_cases hlt : z < m
      · have hAr := hAW.out wr hV.k.fr
        obtain ⟨b, o, rfl, hcs⟩ := hAr.2 (by omega)
        have hbw : b < wr.heap.size := by
          have := hcs 0 ((pic.map bn).getD 0 undef) (by rw [List.getD_eq_getElem?_getD, List.getElem?_eq_getElem (by simp; omega)]; rfl)
          exact World.block_lt_of_cell? wr _ this
        obtain ⟨b3, hb3⟩ : ∃ b3, wr.heap.size = b3 := ⟨_, rfl⟩
        obtain ⟨cs, hcsd⟩ : ∃ cs, ((pic.drop z).take 64).map bn = cs := ⟨_, rfl⟩
        have hcl : cs.length = Nat.min (m - z) 64 := by rw [← hcsd]; simp [hl]; exact Nat.min_comm _ _
        have hc1 : ∀ v ∈ cs, v.oneCell' = true := by rw [← hcsd]; exact bn_one _
        have hB0 : Bl (wr.alloc (.cells zeroS.toArray tSk)) b3 tSk zeroS.toArray := Bl.newAt hb3.symm
        have hz0 : zeroS.toArray = (#[.int .u8 0, .int .u8 0, .int .u8 0, .int .u8 0, .int .u8 0, .int .u8 0, .int .u8 0, .int .u8 0, .int .u8 0, .int .u8 0, .int .u8 0, .int .u8 0, .int .u8 0, .int .u8 0, .int .u8 0, .int .u8 0, .int .u8 0, .int .u8 0, .int .u8 0, .int .u8 0, .int .u8 0, .int .u8 0, .int .u8 0, .int .u8 0, .int .u8 0, .int .u8 0, .int .u8 0, .int .u8 0, .int .u8 0, .int .u8 0, .int .u8 0, .int .u8 0, .int .u8 0, .int .u8 0, .int .u8 0, .int .u8 0, .int .u8 0, .int .u8 0, .int .u8 0, .int .u8 0, .int .u8 0, .int .u8 0, .int .u8 0, .int .u8 0, .int .u8 0, .int .u8 0, .int .u8 0, .int .u8 0, .int .u8 0, .int .u8 0, .int .u8 0, .int .u8 0, .int .u8 0, .int .u8 0, .int .u8 0, .int .u8 0, .int .u8 0, .int .u8 0, .int .u8 0, .int .u8 0, .int .u8 0, .int .u8 0, .int .u8 0, .int .u8 0] : Array Value) := rfl
        have hV2 := hV.quiet ((Fr.refl (fun _ => False) wr).alloc (.cells zeroS.toArray tSk))
        have hsrc : ∀ W, Fr (fun _ => False) wr W → ∀ jj v, cs[jj]? = some v → W.cell? ((⟨b, o + z, none⟩ : Addr).add jj) = some v := fun W hW jj v hv => by
          rw [← hcsd, List.map_take, List.map_drop] at hv
          have hjj : jj < 64 := by have := (List.getElem?_eq_some_iff.1 hv).1; rw [List.length_take] at this; omega
          rw [List.getElem?_take_of_lt hjj, List.getElem?_drop] at hv
          rw [add_at]
          refine (hW.cell (p := ⟨b, o + z + jj, none⟩) hbw id).trans ?_
          rw [Nat.add_assoc]
          exact hcs _ _ hv
        have hsec : (cs ++ zeroS.drop cs.length) = (sectN pic j).map bn := by
          rw [← hcsd]
          unfold sectN
          rw [hz, List.map_append]
          congr 1
          rw [List.length_map]
          exact zdrop _
        have i5 : (z : Int) < (m : Int) := by omega
        have i6 : (0 : Int) ≤ (z : Int) := by omega
        have i6a : ¬ z = c := by omega
        have i6b : ¬ c = z := by omega
        have i7 : (z : Int) ≤ (m : Int) := by omega
        have i8 : IntKind.i64.wrap ((at_ : Int) + 1) = ((at_ + 1 : Nat) : Int) := by rw [show (at_ : Int) + 1 = ((at_ + 1 : Nat) : Int) by omega]; exact IntWalk.i64_in _ (by omega)
        obtain ⟨a1, ha1⟩ : ∃ a1, at_ + 1 = a1 := ⟨_, rfl⟩
        rw [ha1] at i8
        have i9 : (z : Int).tdiv 64 = (j : Int) := by rw [Int.tdiv_eq_ediv_of_nonneg (by omega)]; omega
        have i9' : IntKind.i64.wrap (j : Int) = (j : Int) := IntWalk.i64_in _ (by omega)
        obtain ⟨k1, hk1⟩ : ∃ k1, a1 + j = k1 := ⟨_, rfl⟩
        have i10 : IntKind.i64.wrap ((a1 : Int) + (j : Int)) = (k1 : Int) := by rw [show (a1 : Int) + (j : Int) = (k1 : Int) by omega]; exact IntWalk.i64_in _ (by omega)
        have i11 : IntKind.i64.wrap ((z : Int) + 64) = (z : Int) + 64 := IntWalk.i64_in _ (by omega)
        have Hrd := hide (And.intro hz (And.intro hj (And.intro hV (And.intro hrl (And.intro ha2 (And.intro hdt (And.intro ha1 hk1)))))))
        have Hsrc := hide hsrc
        have Hcl := hide (And.intro hcl hc1)
        have Hsec := hide hsec
        rw [hz0] at hB0 hV2
        have HB0 := hide (And.intro hB0 hV2)
        have Hb3 := hide (And.intro hb3 hbw)
        clear hz hj hV hrl ha2 hdt ha1 hk1 hsrc hcl hc1 hsec hB0 hV2 hcs hcsd hAr hx hl hOk hz0 hbw
        go_wp2_with fail
        generalize hw7 : wr.alloc (.cells #[.int .u8 0, .int .u8 0, .int .u8 0, .int .u8 0, .int .u8 0, .int .u8 0, .int .u8 0, .int .u8 0, .int .u8 0, .int .u8 0, .int .u8 0, .int .u8 0, .int .u8 0, .int .u8 0, .int .u8 0, .int .u8 0, .int .u8 0, .int .u8 0, .int .u8 0, .int .u8 0, .int .u8 0, .int .u8 0, .int .u8 0, .int .u8 0, .int .u8 0, .int .u8 0, .int .u8 0, .int .u8 0, .int .u8 0, .int .u8 0, .int .u8 0, .int .u8 0, .int .u8 0, .int .u8 0, .int .u8 0, .int .u8 0, .int .u8 0, .int .u8 0, .int .u8 0, .int .u8 0, .int .u8 0, .int .u8 0, .int .u8 0, .int .u8 0, .int .u8 0, .int .u8 0, .int .u8 0, .int .u8 0, .int .u8 0, .int .u8 0, .int .u8 0, .int .u8 0, .int .u8 0, .int .u8 0, .int .u8 0, .int .u8 0, .int .u8 0, .int .u8 0, .int .u8 0, .int .u8 0, .int .u8 0, .int .u8 0, .int .u8 0, .int .u8 0] 61) = w7 at HB0
        have hw7' : wr.alloc (.cells #[.int .u8 0, .int .u8 0, .int .u8 0, .int .u8 0, .int .u8 0, .int .u8 0, .int .u8 0, .int .u8 0, .int .u8 0, .int .u8 0, .int .u8 0, .int .u8 0, .int .u8 0, .int .u8 0, .int .u8 0, .int .u8 0, .int .u8 0, .int .u8 0, .int .u8 0, .int .u8 0, .int .u8 0, .int .u8 0, .int .u8 0, .int .u8 0, .int .u8 0, .int .u8 0, .int .u8 0, .int .u8 0, .int .u8 0, .int .u8 0, .int .u8 0, .int .u8 0, .int .u8 0, .int .u8 0, .int .u8 0, .int .u8 0, .int .u8 0, .int .u8 0, .int .u8 0, .int .u8 0, .int .u8 0, .int .u8 0, .int .u8 0, .int .u8 0, .int .u8 0, .int .u8 0, .int .u8 0, .int .u8 0, .int .u8 0, .int .u8 0, .int .u8 0, .int .u8 0, .int .u8 0, .int .u8 0, .int .u8 0, .int .u8 0, .int .u8 0, .int .u8 0, .int .u8 0, .int .u8 0, .int .u8 0, .int .u8 0, .int .u8 0, .int .u8 0] 61) = w7 := hw7
        have hf7 : Fr (fun _ => False) wr w7 := by rw [← hw7]; exact (Fr.refl _ _).alloc _
        try rw [Hb3.out.1]
        try rw [hw7']
        clear hw7 hw7'
        refine region_tail 4 (by kernel_rfl) (by kernel_rfl) ?_
        intro w8 Hw8 hcw8 hzw8 hsw8
        simp only [List.take_succ_cons, List.take_zero, List.drop_succ_cons, List.drop_zero]
        repeat still_step
        refine wpStill_nil ?_
        have hf8 : Fr (fun _ => False) w7 w8 := by rw [Hw8.out]; exact (Fr.refl _ _).drew
        have hB8 := HB0.out.1.fr hf8 id
        have hV8 := HB0.out.2.quiet hf8
        have hth : w8.there b3 0 cs.length := fun jj hjj => ⟨by rw [hB8.cell]; have := Hcl.out.1; have h2 : Nat.min (m - z) 64 ≤ 64 := Nat.min_le_right _ _; simp; omega, hB8.free _⟩
        have hsr := Hsrc.out w8 (hf7.trans hf8)
        have Hth := hide hth
        have Hsr := hide hsr
        have hB9 : Bl (w8.setCells b3 0 cs) b3 tSk ((sectN pic j).map bn).toArray := by
          have := bl_setCells (cs := cs) (zs := zeroS) (by exact hB8) (by have := Hcl.out.1; have h2 : Nat.min (m - z) 64 ≤ 64 := Nat.min_le_right _ _; simp [zeroS]; omega)
          rw [Hsec.out] at this
          exact this
        have hf9 := fr_setCells b3 cs 0 w8
        obtain ⟨hz, hj, hV, hrl, ha2, hdt, ha1, hk1⟩ := Hrd.out
        have hV9 : SV w q p fr n t0 t1 N s0 s1 F s (w8.setCells b3 0 cs) F2 d2 a2 := by
          have h1 := hV.b0.lt
          have h2 := hV.b1.lt
          have h3 : q < wr.heap.size := Bl.lt hV.st
          have h4 := hV.k.fr.size
          have h5 := Hb3.out.1
          exact hV8.far hf9 (fun e => by have := hV.k.di.lt e; omega) (by omega) (by omega) (by omega) (by omega)
        have kp9 := hV9.b0.cell' (i := 0) (v := .pointer (some ⟨q, 0, none⟩)) rfl
        have hl := HX.out.2.1
        have hcall := swrite_any hV9.st hV9.k.di hV9.k.fz k1 (by omega) (sectN pic j) (sectN_len pic j) (by omega) (by have := hV9.k.wr; have := Hwy.out.1; omega) hV9.nq
        have hSi : Hid ((Try.prog.info? tSk).map (·.size) = some ((sectN pic j).map bn).toArray.size) := by show _ = _; rw [List.size_toArray, List.length_map, sectN_len]; kernel_rfl
        have HV9 := hide hV9
        have HB9 := hide hB9
        clear hz hj hV hrl ha2 hdt ha1 hk1 hl hV9 hf9 hsr hth hB8 hV8 hf7 hf8 HB0
        obtain ⟨SN, hSN⟩ : ∃ SN, (sectN pic j).map bn = SN := ⟨_, rfl⟩
        rw [hSN] at hcall hSi hB9
        clear hSN HB9
        go_wp2_with (first
          | (go_loud (refine wpList_copy_into rfl _ _ _ _ rfl 5 Try.underlying22 u8size b3 0 64 64 rfl ⟨b, o + z, none⟩ (m - z) (c - z) rfl cs Hcl.out.1 Hsr.out Hth.out Hcl.out.2 ?_))
          | (refine wpList_load_row rfl tSk _ rfl b3 rfl tSk _ (0, 0) _ hB9 Try.underlying61 rfl hSi.out ?_))
        refine hcall.mono ?_
        rintro e w10 ⟨rfl, ho⟩
        obtain ⟨F3, hV10⟩ := HV9.out.out ho (write_fz HV9.out.k.fz _ _) (by simp [DS.write]) (by simp [DS.write])
        have HV10 := hide hV10
        clear hcall ho hV10 HV9 kp9 hB9
        go_wp2_with fail
        obtain ⟨hz, hj, hV, hrl, ha2, hdt, ha1, hk1⟩ := Hrd.out
        refine ⟨⟨j + 1, z + 64, a2 + 1, F3, _, by go_num, by omega, by omega, HV10.out, by simp [DS.write]; omega, by omega, fun k hk hne => ?_⟩, by simp [intOf]; omega⟩
        rw [told_write, laidT_next]
        by_cases hkk : k1 = k
        · rw [if_pos hkk, if_pos (by omega)]
        · rw [if_neg hkk, if_neg (by omega)]
          exact hdt k hk hne
      · have hJ : j = (m + 63) / 64 := by omega
        have kp := hV.b0.cell' (i := 0) (v := .pointer (some ⟨q, 0, none⟩)) rfl
        have cp := (show Bl _ q tStill _ from hV.st).cell' (i := 0) (v := .pointer (some ⟨p, 0, none⟩)) rfl
        have hsyc := ssync_any hV.k.di hV.k.fz (by have := hV.k.sy; have := Hwy.out.2; omega)
        have i5 : ¬ (z : Int) < (m : Int) := by omega
        have Hrd := hide (And.intro hJ (And.intro hV (And.intro hrl (And.intro ha2 hdt))))
        clear hz hj hV hrl ha2 hdt hx hl hOk hJ
        go_wp2_with fail
        refine hsyc.mono ?_
        rintro e w10 ⟨rfl, ho⟩
        obtain ⟨hJ, hV, hrl, ha2, hdt⟩ := Hrd.out
        obtain ⟨F3, hV10⟩ := hV.out ho (sync_fz hV.k.fz) (by simp [DS.sync]) (by simp [DS.sync])
        have HV10 := hide hV10
        clear hsyc ho hV10 hJ hV hrl ha2 hdt kp cp
        go_wp2_with fail
        refine (must_ok w10).mono ?_
        rintro e w' ⟨rfl, rfl⟩
        have hhead : Hid (∀ W, Fr (fun _ => False) w10 W → Calls Try.prog 33 #[.int .i64 (t : Int), .slice A m c] W fun e w' => e = .returned (.agg ((headN t pic).map bn).toArray) ∧ Fr (fun _ => False) W w') := fun W hW => by
          have h1 := (HV10.out.quiet hW).k.fr
          exact head_any W t (by have := Htt.out.2.1; omega) A m c pic HX.out.1 HX.out.2.1 (by omega) (hAW.out W h1)
        obtain ⟨HN, hHN⟩ : ∃ HN, (headN t pic).map bn = HN := ⟨_, rfl⟩
        have hwri : Hid (∀ W, Fr (fun _ => False) w10 W → Calls Try.prog 30 #[.pointer (some ⟨q, 0, none⟩), .int .i64 (at_ : Int), .agg HN.toArray] W fun e w' => e = .returned (.tuple #[]) ∧ DOut W p N F3 (d2.sync.write at_ (headN t pic)) w') := fun W hW => by
          have h1 := HV10.out.quiet hW
          have := swrite_any h1.st h1.k.di h1.k.fz at_ (by omega) (headN t pic) (headN_len t pic) (by simp [DS.sync]) (by have := h1.k.wr; have := Hwy.out.1; have := Hrd.out.2.2.2.1; have := Hrd.out.1; omega) h1.nq
          rw [hHN] at this
          exact this
        rw [hHN] at hhead
        have Hkp : Hid (∀ W, Fr F3 w10 W → W.cell? ⟨s0, 0, none⟩ = some (.pointer (some ⟨q, 0, none⟩))) := fun W hW => (HV10.out.b0.fr hW HV10.out.n0).cell' rfl
        have kp := Hkp.out w10 (Fr.refl _ _)
        have hS0 : Fr F3 w10 w10 := Fr.refl _ _
        have hQ0 : Fr (fun _ => False) w10 w10 := Fr.refl _ _
        clear hHN
        go_wp2_with fail
        go_region_held3 (fun w' => Fr F3 w10 w' ∧ w'.cell? ⟨s0, 0, none⟩ = some (.pointer (some ⟨q, 0, none⟩))) (first | assumption | exact Fr.drew (by assumption) | (refine ⟨?_, ?_⟩ <;> first | assumption | exact Fr.drew (by assumption)) | go_keep)
          (first
            | (go_at_call 33; refine (hhead.out _ (by first | assumption | exact Fr.drew (by assumption))).mono ?_; rintro e w12 ⟨rfl, hf12⟩; have hq12 : Fr (fun _ => False) w10 w12 := Fr.trans (by first | assumption | exact Fr.drew (by assumption)) hf12; have hs12 : Fr F3 w10 w12 := hq12.weak _; have kp12 := Hkp.out _ hs12)
            | (go_at_call 30; refine (hwri.out _ (by first | assumption | exact Fr.drew (by assumption))).mono ?_; rintro e w13 ⟨rfl, ho13⟩; have hs13 : Fr F3 w10 w13 := Fr.trans (Fr.weak (by first | assumption | exact Fr.drew (by assumption)) _) (by obtain ⟨_, _, h2, _⟩ := ho13; exact h2); have kp13 := Hkp.out _ hs13))
        obtain ⟨F4, hV13⟩ := (HV10.out.quiet hq12).out ho13 (write_fz (sync_fz (Hrd.out.2.1.k.fz)) _ _) (by simp [DS.write]) (by simp [DS.write])
        have HV13 := hide hV13
        have kp := hV13.b0.cell' (i := 0) (v := .pointer (some ⟨q, 0, none⟩)) rfl
        have cp := (show Bl _ q tStill _ from hV13.st).cell' (i := 0) (v := .pointer (some ⟨p, 0, none⟩)) rfl
        have hsyc := ssync_any hV13.k.di hV13.k.fz (by have := hV13.k.sy; have := Hwy.out.2; have := Hrd.out.2.2.2.1; have := Hrd.out.1; omega)
        clear hS0 hQ0 hf12 hq12 hs12 kp12 ho13 hs13 kp13 hhead hwri Hkp hV13
        go_wp2_with fail
        refine hsyc.mono ?_
        rintro e w14 ⟨rfl, ho⟩
        obtain ⟨F5, hV14⟩ := HV13.out.out ho (sync_fz HV13.out.k.fz) (by simp [DS.sync]) (by simp [DS.sync])
        have HV14 := hide hV14
        have kp := hV14.b0.cell' (i := 0) (v := .pointer (some ⟨q, 0, none⟩)) rfl
        obtain ⟨tr, htr⟩ : ∃ tr : Nat, (#[.pointer (some ⟨p, 0, none⟩), .int .i64 (fr : Int), .int .i64 (n : Int), .int .i64 (t0 : Int), .int .i64 (t1 : Int), .bool false] : Array Value)[3 + r]? = some (.int .i64 (tr : Int)) := by
          rcases Nat.lt_or_ge r 1 with h | h
          · obtain rfl : r = 0 := by omega
            exact ⟨t0, rfl⟩
          · obtain rfl : r = 1 := by omega
            exact ⟨t1, rfl⟩
        have cq := (show Bl _ q tStill _ from hV14.st).cell' htr
        have zq := (show Bl _ q tStill _ from hV14.st).free (3 + r)
        have g1 : (0 : Int) ≤ (r : Int) := by omega
        have g2 : (r : Int) < 2 := by omega
        have nqs : s1 ≠ q := by have := hqw.out; have := hsw.out; omega
        have hE15 : Bl (w14.setCell ⟨q, 3 + r, none⟩ (.int .i64 (t : Int))) s1 tEn #[.int .i64 0] := hV14.b1.far nqs _
        have k1 := hE15.cell' (i := 0) (v := .int .i64 0) rfl
        have z1 := hE15.free 0
        have HV13ok := hide (HV13.out.k.di.ok)
        clear hsyc ho hV14 cp HV13
        go_wp2_with fail
        refine (must_ok w14).mono ?_
        rintro e w' ⟨rfl, rfl⟩
        go_wp2_with fail
        have f1 : Fr (fun x => x = q) w14 (w14.setCell ⟨q, 3 + r, none⟩ (.int .i64 (t : Int))) := (Fr.refl _ _).setAt _
        have f2 : Fr (fun x => x = s1) (w14.setCell ⟨q, 3 + r, none⟩ (.int .i64 (t : Int))) ((w14.setCell ⟨q, 3 + r, none⟩ (.int .i64 (t : Int))).setCell ⟨s1, 0, none⟩ (.int .i64 0)) := (Fr.refl _ _).setAt _
        have hST := (show Bl _ q tStill _ from HV14.out.st).set (3 + r) (.int .i64 (t : Int))
        have hfin : Hid (PO (.returned (.int .i64 0)) ((w14.setCell ⟨q, 3 + r, none⟩ (.int .i64 (t : Int))).setCell ⟨s1, 0, none⟩ (.int .i64 0))) := by
          show PO _ _
          rw [← HPO.out]
          unfold SaveOut
          rw [Htt.out.1, Htt.out.2.1, Htt.out.2.2.1, Htt.out.2.2.2.1]
          obtain ⟨hJ, hV, hrl, ha2, hdt⟩ := Hrd.out
          have hV14 := HV14.out
          have hbj : j ≤ 66000 := by omega
          refine ⟨rfl, F5, _, (hV14.k.di.fr f1 (fun x hx e => hV14.nq (e ▸ hx))).fr f2 (fun x hx e => hV14.n1 (e ▸ hx)), hV14.k.fz, rfl, fun k hk => ?_, ?_, hV14.k.grow, ((hV14.k.fr.mono fun x _ h => .inl h).setIn (.inl (.inr rfl)) _).setIn (.inr (by have := hsw.out; omega)) _, by have := hV14.k.wr; omega, by have := hV14.k.sy; omega⟩
          · rw [told_sync HV13ok.out hk, told_write]
            unfold saveT
            by_cases hka : at_ = k
            · rw [if_pos hka, if_pos hka.symm]
            · rw [if_neg hka, if_neg (fun e => hka e.symm), told_sync hV.k.di.ok hk, hdt k hk (fun e => hka e.symm), HX.out.2.1, ← hJ]
          · rcases Nat.lt_or_ge r 1 with h | h
            · obtain rfl : r = 0 := by omega
              exact Bl.fr hST f2 (fun e => nqs e.symm)
            · obtain rfl : r = 1 := by omega
              exact Bl.fr hST f2 (fun e => nqs e.symm)
        have hE16 := hE15.set 0 (.int .i64 0)
        generalize (w14.setCell ⟨q, 3 + r, none⟩ (.int .i64 (t : Int))).setCell ⟨s1, 0, none⟩ (.int .i64 0) = W at hfin hE16 ⊢
        have kW : W.cell? ⟨s1, 0, none⟩ = some (.int .i64 0) := hE16.cell' rfl
        clear hE16 hE15 f1 f2 hST k1 z1 kp cq zq
        refine leaves_cons (f := 27) (args := #[.pointer (some ⟨s0, 0, none⟩), .pointer (some ⟨s1, 0, none⟩)]) (by simp) (by simp [go_sem]) ?_
        refine (save_left _ _ _).mono ?_
        rintro e u' w'' ⟨rfl, rfl, rfl⟩
        simp [Leaves, settle, results, Try.results12, go_sem, kW]
        exact hfin.out
end
end Go.Proofs.Ytchajbiloaiekaa
