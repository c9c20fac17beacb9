/-
  DrrTime: the walk.
-/
import Derived.Test.YtanfhmebjgmdpaaDt8
import Derived.Test.YtanfhmebjgmdpaaDr8
namespace Go.Proofs.Ytanfhmebjgmdpaa.Qj
open Go.RowKit
set_option linter.unusedVariables false
set_option linter.unusedSimpArgs false
attribute [local go_sem ↓] Go.wp_at_zero Go.wp_at_succ
theorem Sl_at (w : World) (v : Value) (t : TypeId) {g : Nat} (hg : g = w.heap.size) : Sl (w.alloc (.cells #[v] t)) 1 (some ⟨g, 0, none⟩) 1 [v] := by subst hg; exact Sl_int1 _ _ _
theorem infoInts : (Try.prog.info? tInts).map (fun i => (i.zero, i.size, i.bytes)) = some (some (.slice none 0 0), 1, 24) := by kernel_rfl
set_option maxHeartbeats 4000000 in
set_option maxRecDepth 100000 in
theorem time_walk (w : World) (a b c : Int) (ha : in64 a) (hb : in64 b) (hc : in64 c) (A : Option Addr) (sn sc : Nat) (hn : sn * 48 ≤ 140737488355328) (f : Nat → Nat → Value) (kd wh qu co x mo : Nat → Int) (hs : Cells w w.heap.size A sn 6 f)
    (h0 : ∀ i, i < sn → f i 0 = .int .i64 (kd i)) (h1 : ∀ i, i < sn → f i 1 = .int .i64 (wh i)) (h2 : ∀ i, i < sn → f i 2 = .int .i64 (qu i)) (h3 : ∀ i, i < sn → f i 3 = .int .i64 (co i)) (h4 : ∀ i, i < sn → f i 4 = .int .i64 (x i)) (h5 : ∀ i, i < sn → f i 5 = .int .i64 (mo i))
    (hqu : ∀ i, i < sn → in64 (qu i)) (hco : ∀ i, i < sn → in64 (co i)) :
    Calls Try.prog 3 #[.agg #[.int .i64 a, .int .i64 b, .int .i64 c], .slice A sn sc] w fun e w' => e = .returned (.bool true) ∧ Below w.heap.size w w' := by
  obtain ⟨j0, hj, hj0, hj1, hj2⟩ := info_parts infoInt
  obtain ⟨q0, hq, hq0, hq1, hq2⟩ := info_parts infoInts
  have hmd := made_any (w.alloc (.cells #[.int .i64 a, .int .i64 b, .int .i64 c] tShape)) a b c ha hb hc
  clear ha hb hc
  go_enter Try.func3, Try.ntmps3
  go_wp2_with fail
  refine hmd.mono ?_
  rintro e w1 ⟨n, room, q, d, L, s, e1, e2, e3, rfl, hm⟩
  have n1 : 1 ≤ n ∧ n ≤ 12 := by have := Int.emod_nonneg a (show (12 : Int) ≠ 0 by omega); have := Int.emod_lt_of_pos a (show (0 : Int) < 12 by omega); omega
  have r1 : 1 ≤ room ∧ room ≤ 40 := by have := Int.emod_nonneg b (show (40 : Int) ≠ 0 by omega); have := Int.emod_lt_of_pos b (show (0 : Int) < 40 by omega); omega
  have q1 : 8 ≤ q ∧ q ≤ 1024 := by have := Int.emod_nonneg c (show (1017 : Int) ≠ 0 by omega); have := Int.emod_lt_of_pos c (show (0 : Int) < 1017 by omega); omega
  clear e1 e2 e3 hmd
  have HM := hide hm
  clear hm
  go_wp2_with fail
  obtain ⟨yb, hyb⟩ : ∃ yb, w1.heap.size = yb := ⟨_, rfl⟩
  refine (awake_any _).mono ?_
  rintro e w3 ⟨rfl, hf3⟩
  obtain ⟨hat, hsq, hsr, hsb, hsl, hse, hsf, hsd⟩ := HM.out
  have hF1 : Fr (fun _ => False) w w1 := ((Fr.refl _ _).alloc _).trans hsf
  have hF13 : Fr (fun _ => False) w1 w3 := ((Fr.refl _ _).alloc _).trans hf3
  have hy3 : Bl w3 yb tShape #[.int .i64 (n : Int), .int .i64 (room : Int), .int .i64 (q : Int)] := (Bl.newAt hyb.symm).fr hf3 id
  have hat3 : DrrAt w3 d L 7 s := (hat 7 (by omega) (by omega)).quiet hF13
  have hF3 := hF1.trans hF13
  have hsd' : ∀ x, drfoot d L s x → w.heap.size ≤ x := fun x hx => by have := hsd x hx; simp at this; omega
  have HP := hide (And.intro hat3 (And.intro hsq (And.intro hsr (And.intro hsb (And.intro hsl (And.intro hse (And.intro hsd' (And.intro hF3 hy3))))))))
  clear HM hat hsq hsr hsb hsl hse hsf hsd hF1 hF13 hy3 hat3 hF3 hsd' hf3
  simp only [hyb]
  clear hyb
  go_wp2_with fail
  obtain ⟨pb, hpb⟩ : ∃ pb, w3.heap.size = pb := ⟨_, rfl⟩
  simp only [hpb]
  have HL0 : Hid (∃ A S U ca cs cu gA gS gU, BRaw w pb A S U ca cs cu gA gS gU 0 0 0 (w3.alloc (.cells #[.slice none 0 0, .slice none 0 0, .slice none 0 0, .int .i64 0] tBook)) ∧ BW w d L yb n room q s (w3.alloc (.cells #[.slice none 0 0, .slice none 0 0, .slice none 0 0, .int .i64 0] tBook))) := by
    obtain ⟨hat3, hsq, hsr, hsb, hsl, hse, hsd', hF3, hy3⟩ := HP.out
    refine ⟨none, none, none, 0, 0, 0, none, none, none, ⟨Bl.newAt hpb.symm, Ow.nil_ _ _ _, Ow.nil_ _ _ _, Ow.nil_ _ _ _, (fun x e => by cases e), fun x hx => ?_⟩, hat3.quiet ((Fr.refl _ _).alloc _), hy3.alloc _, hF3.alloc _⟩
    rcases hx with rfl | e | e | e
    · have := hF3.size; omega
    all_goals cases e
  clear hpb
  go_loopw [8] (fun i wr => ∃ k : Nat, i = .int .i64 (k : Int) ∧ k ≤ n ∧ ∃ A S U ca cs cu gA gS gU, BRaw w pb A S U ca cs cu gA gS gU k k k wr ∧ BW w d L yb n room q s wr) (fun i _ => n - (intOf i).toNat)
  case atStart => exact ⟨0, rfl, Nat.zero_le _, HL0.out⟩
  case round =>
    obtain ⟨k, rfl, hk, A1, S1, U1, ca, cs, cu, gA, gS, gU, hR, hW⟩ := hrel
    clear HL0
    obtain ⟨wo, rfl⟩ : ∃ wo, wo = wr := ⟨_, rfl⟩
    have y0 : wo.cell? ⟨yb, 0, none⟩ = some (.int .i64 (n : Int)) := hW.2.1.cell' (i := 0) rfl
    by_cases hlt : k < n
    · have c0 : wo.cell? ⟨pb, 0, none⟩ = some (.slice A1 k ca) := hR.bl.cell' (i := 0) rfl
      have i1 : (k : Int) < (n : Int) := by omega
      have hmx : k + 1 ≤ maxLen := by unfold maxLen; omega
      have hO := hR.oa
      have HR := hide (And.intro hR hW)
      clear hR hW
      go_wp2_with (at_builtin; go_loud (refine wpList_append_ow _ rfl _ _ tInts rfl tInt j0 (.int .i64 0) 1 8 Try.underlying30 hj hj0 hj1 hj2 rfl (by decide) _ _ _ _ _ rfl (hO.fr ((Fr.refl _ _).alloc _) (fun _ _ => id)) _ _ _ _ rfl (Sl_at _ _ _ (by simp)) (by intro u hu; simp at hu; subst hu; rfl) hmx (by omega) ?_))
      intro A2 c2 w2 g2 hO2 hf2 hg2
      obtain ⟨hR, hW⟩ := HR.out
      obtain ⟨t0, ⟨v0, t1⟩, hR2, hF2⟩ := hR.stepA (by simpa [List.replicate_succ'] using hO2) (((Fr.refl _ _).alloc _).comp hf2 fun _ _ e => e) (hg2.imp id fun ⟨y, e, hy⟩ => ⟨y, e, by omega⟩) hW.2.2.size
      have hW2 := hR.keep hW (hF2.mono fun x _ e => e.elim .inl (fun e => .inr (.inl e)))
      have c1 : (w2.setCell ⟨pb, 0, none⟩ (.slice A2 (k + 1) c2)).cell? ⟨pb, 1, none⟩ = some (.slice S1 k cs) := hR2.bl.cell' (i := 1) rfl
      have HR2 := hide (And.intro hR2 hW2)
      clear hR hW hR2 hW2 hF2 hO2 hf2 hg2 HR hO c0
      have hO := HR2.out.1.os
      go_wp2_with (at_builtin; go_loud (refine wpList_append_ow _ rfl _ _ tInts rfl tInt j0 (.int .i64 0) 1 8 Try.underlying30 hj hj0 hj1 hj2 rfl (by decide) _ _ _ _ _ rfl (hO.fr ((Fr.refl _ _).alloc _) (fun _ _ => id)) _ _ _ _ rfl (Sl_at _ _ _ (by simp)) (by intro u hu; simp at hu; subst hu; rfl) hmx (by omega) ?_))
      intro A3 c3 w3' g3 hO3 hf3 hg3
      obtain ⟨hR, hW⟩ := HR2.out
      obtain ⟨t0', ⟨v0', t1'⟩, hR2, hF2⟩ := hR.stepS (by simpa [List.replicate_succ'] using hO3) (((Fr.refl _ _).alloc _).comp hf3 fun _ _ e => e) (hg3.imp id fun ⟨y, e, hy⟩ => ⟨y, e, by simp at hy ⊢; omega⟩) hW.2.2.size
      have hW2 := hR.keep hW (hF2.mono fun x _ e => e.elim .inl (fun e => .inr (.inr (.inl e))))
      have c2' : (w3'.setCell ⟨pb, 1, none⟩ (.slice A3 (k + 1) c3)).cell? ⟨pb, 2, none⟩ = some (.slice U1 k cu) := hR2.bl.cell' (i := 2) rfl
      have HR3 := hide (And.intro hR2 hW2)
      clear hR hW hR2 hW2 hF2 hO3 hf3 hg3 HR2 hO c1 t0 t1
      have hO := HR3.out.1.ou
      go_wp2_with (at_builtin; go_loud (refine wpList_append_ow _ rfl _ _ 31 rfl tInts q0 (.slice none 0 0) 1 24 Try.underlying31 hq hq0 hq1 hq2 rfl (by decide) _ _ _ _ _ rfl (hO.fr ((Fr.refl _ _).alloc _) (fun _ _ => id)) _ _ _ _ rfl (Sl_at _ _ _ (by simp)) (by intro u hu; simp at hu; subst hu; rfl) hmx (by omega) ?_))
      intro A4 c4 w4 g4 hO4 hf4 hg4
      obtain ⟨hR, hW⟩ := HR3.out
      obtain ⟨t0, ⟨v4, t1⟩, hR2, hF2⟩ := hR.stepU (by simpa [List.replicate_succ'] using hO4) (((Fr.refl _ _).alloc _).comp hf4 fun _ _ e => e) (hg4.imp id fun ⟨y, e, hy⟩ => ⟨y, e, by simp at hy ⊢; omega⟩) hW.2.2.size
      have hW2 := hR.keep hW (hF2.mono fun x _ e => e.elim .inl (fun e => .inr (.inr (.inr e))))
      have HR4 := hide (And.intro hR2 hW2)
      clear hR hW hR2 hW2 hF2 hO4 hf4 hg4 HR3 hO c2' t0' t1'
      go_wp2_with fail
      exact ⟨⟨k + 1, by go_num, hlt, _, _, _, _, _, _, _, _, _, HR4.out.1, HR4.out.2⟩, by simp [intOf]; omega⟩
    · obtain rfl : k = n := by omega
      obtain ⟨hat3, hsq, hsr, hsb, hsl, hse, hsd', hF3, hy3⟩ := HP.out
      obtain ⟨hat, hy, hfr⟩ := hW
      have hT : TI w pb yb d L k room (q : Int) 0 (b0 k) ⟨pb, A1, S1, U1, ca, cs, cu, gA, gS, gU, List.replicate k ⟨none, 0, none⟩⟩ s wo :=
        ⟨rfl, hR.done, hat, hsq ▸ Btw.zero hsl hse, hsb, hsr, hy, hfr, (fun a ha => by simp [b0] at ha; omega), Int.le_refl _, Int.le_refl _, (fun x hx => by
          rcases hx with e | e | e | e | ⟨r, hr, e⟩
          · exact hR.lo x (.inl e)
          · exact hR.lo x (.inr (.inl e))
          · exact hR.lo x (.inr (.inr (.inl e)))
          · exact hR.lo x (.inr (.inr (.inr e)))
          · have h1 : r = ⟨none, 0, none⟩ := List.eq_of_mem_replicate hr
            subst h1; cases e), hsd'⟩
      have HT := hide hT
      clear hT hat3 hsq hsr hsb hsl hse hsd' hF3 hy3 hat hy hfr hR HP
      go_wp2_with fail
      clear y0
      go_loopw [9] (fun i wr => ∃ m : Nat, i = .int .i64 (m : Int) ∧ m ≤ sn ∧ ∃ b p s, TI w pb yb d L k room (q : Int) m b p s wr) (fun i _ => sn - (intOf i).toNat)
      case atStart => exact ⟨0, rfl, Nat.zero_le _, _, _, _, HT.out⟩
      case round =>
        obtain ⟨m, rfl, hm, b1, p, s1, hT⟩ := hrel
        obtain ⟨wp, rfl⟩ : ∃ wp, wp = wr := ⟨_, rfl⟩
        clear HT
        by_cases hlt : m < sn
        · obtain ⟨bk, o, rfl, hbB, hcs⟩ := hs (by omega)
          obtain rfl : p.pb = pb := hT.hp
          have hc : ∀ j, j < 6 → wp.cell? ⟨bk, o + m * 6 + j, none⟩ = some (f m j) := fun j hj => (hT.fr.cell (p := ⟨bk, o + m * 6 + j, none⟩) hbB id).trans (hcs m j hlt hj)
          have d0 := (hc 0 (by omega)).trans (congrArg some (h0 m hlt))
          rw [Nat.add_zero] at d0
          have d1 := (hc 1 (by omega)).trans (congrArg some (h1 m hlt))
          have d2 := (hc 2 (by omega)).trans (congrArg some (h2 m hlt))
          have d3 := (hc 3 (by omega)).trans (congrArg some (h3 m hlt))
          have d4 := (hc 4 (by omega)).trans (congrArg some (h4 m hlt))
          have d5 := (hc 5 (by omega)).trans (congrArg some (h5 m hlt))
          have hqz := hqu m hlt
          have hcz := hco m hlt
          obtain ⟨kk, hkk⟩ : ∃ z, kd m = z := ⟨_, rfl⟩
          obtain ⟨ww, hww⟩ : ∃ z, wh m = z := ⟨_, rfl⟩
          obtain ⟨qq, hqq⟩ : ∃ z, qu m = z := ⟨_, rfl⟩
          obtain ⟨cc, hcc⟩ : ∃ z, co m = z := ⟨_, rfl⟩
          obtain ⟨xx, hxx⟩ : ∃ z, x m = z := ⟨_, rfl⟩
          obtain ⟨mm, hmm⟩ : ∃ z, mo m = z := ⟨_, rfl⟩
          rw [hkk] at d0
          rw [hww] at d1
          rw [hqq] at d2 hqz
          rw [hcc] at d3 hcz
          rw [hxx] at d4
          rw [hmm] at d5
          clear hc hcs hs h0 h1 h2 h3 h4 h5 hqu hco hkk hww hqq hcc hxx hmm hj hj0 hj1 hj2 hq hq0 hq1 hq2
          have hx0 := Bl.new wp 35 #[.int .i64 kk, .int .i64 ww, .int .i64 qq, .int .i64 cc, .int .i64 xx, .int .i64 mm]
          have hT1 := hT.quiet ((Fr.refl (fun _ => False) wp).alloc (.cells #[.int .i64 kk, .int .i64 ww, .int .i64 qq, .int .i64 cc, .int .i64 xx, .int .i64 mm] 35))
          obtain ⟨W1, hW1⟩ : ∃ W1, wp.alloc (.cells #[.int .i64 kk, .int .i64 ww, .int .i64 qq, .int .i64 cc, .int .i64 xx, .int .i64 mm] 35) = W1 := ⟨_, rfl⟩
          obtain ⟨ob, hob⟩ : ∃ ob, wp.heap.size = ob := ⟨_, rfl⟩
          rw [hW1] at hx0 hT1
          rw [hob] at hx0
          have o0 : W1.cell? ⟨ob, 0, none⟩ = some (.int .i64 kk) := hx0.cell' (i := 0) rfl
          have o2 : W1.cell? ⟨ob, 2, none⟩ = some (.int .i64 qq) := hx0.cell' (i := 2) rfl
          have o3 : W1.cell? ⟨ob, 3, none⟩ = some (.int .i64 cc) := hx0.cell' (i := 3) rfl
          have y0 : W1.cell? ⟨yb, 0, none⟩ = some (.int .i64 (k : Int)) := hT1.y.cell' (i := 0) rfl
          have y1 : W1.cell? ⟨yb, 1, none⟩ = some (.int .i64 (room : Int)) := hT1.y.cell' (i := 1) rfl
          have y2 : W1.cell? ⟨yb, 2, none⟩ = some (.int .i64 (q : Int)) := hT1.y.cell' (i := 2) rfl
          have i1 : (m : Int) < (sn : Int) := by omega
          have i2 : (0 : Int) ≤ (m : Int) := by omega
          have e1 := Int.emod_nonneg qq (show (k : Int) ≠ 0 by omega)
          have e2 := Int.emod_lt_of_pos qq (show (0 : Int) < (k : Int) by omega)
          obtain ⟨qi, hqi⟩ : ∃ qi : Nat, qq % (k : Int) = (qi : Int) := ⟨(qq % (k : Int)).toNat, by omega⟩
          have hrd := fun W => round_any W qq k (by omega) (by omega) hqz
          simp only [hqi] at hrd
          have e3 := Int.emod_nonneg cc (show (8 : Int) ≠ 0 by omega)
          have e4 := Int.emod_lt_of_pos cc (show (0 : Int) < 8 by omega)
          have hrc := fun W => round_any W cc 8 (by omega) (by omega) hcz
          obtain ⟨z8, hz8⟩ : ∃ z, cc % 8 = z := ⟨_, rfl⟩
          simp only [hz8] at hrc
          rw [hz8] at e3 e4
          have hqk : qi < k := by rw [hqi] at e2; omega
          clear hqz hcz hz8 hqi e1 e2
          have HT := hide hT1
          have HO := hide hx0
          clear hT hT1 hx0
          by_cases k1 : kk = 1
          · subst k1
            obtain ⟨l, hl⟩ := get_of HT.out.bt.ll hqk
            obtain ⟨ad, ha⟩ := get_of HT.out.bt.la hqk
            obtain ⟨sv, hsv⟩ := get_of HT.out.bt.ls hqk
            obtain ⟨un, hu⟩ := get_of HT.out.bt.lu hqk
            obtain ⟨b1', b2', b3', b4', b5', b6', b7'⟩ := HT.out.bt.lin qi l ad sv un hl ha hsv hu
            have had := HT.out.ba ad (List.mem_of_getElem? ha)
            obtain ⟨xa, oa, hPA, -, cA, -⟩ := HT.out.bk.lookA ha
            have p0 : W1.cell? ⟨p.pb, 0, none⟩ = some (.slice (some ⟨xa, oa, none⟩) k p.ca) := by rw [← hPA, ← HT.out.bt.la]; exact HT.out.bk.bl.cell' (i := 0) rfl
            have hlen := Len_in W1 HT.out.dr qi l hl
            obtain ⟨z, hz⟩ : ∃ z : Nat, l.things.length = z := ⟨_, rfl⟩
            rw [hz] at hlen
            have i3 : (0 : Int) ≤ (qi : Int) := by omega
            have i4 : (qi : Int) < (k : Int) := by omega
            have iw : IntKind.i64.wrap (1 + z8) = 1 + z8 := IntWalk.i64_in _ (by omega)
            obtain ⟨c1, hc1⟩ : ∃ c1, 1 + z8 = c1 := ⟨_, rfl⟩
            rw [hc1] at iw
            have hcb : 1 ≤ c1 ∧ c1 ≤ 8 := by omega
            have HX := hide (And.intro hl (And.intro ha (And.intro hu (And.intro b6' hz))))
            clear hl ha hsv hu b1' b2' b3' b4' b5' b7' hPA e3 e4
            by_cases hroom : room ≤ z
            · have hfull := Add_full W1 HT.out.dr qi l (((ad : Int), c1), c1) HX.out.1 HT.out.nb hcb (by rw [HT.out.rm, hz]; exact hroom)
              simp only [tv] at hfull
              have j1 : decide ((z : Int) < (room : Int)) = false := by simp; omega
              clear b6' hz
              go_wp2_with fail
              (try rw [hW1])
              (try rw [hob])
              (try simp only [hob])
              clear hW1 hob d0 d1 d2 d3 d4 d5
              (refine (hrd _).mono ?_); (rintro e w9 ⟨rfl, rfl⟩); (go_wp2_with fail)
              (refine hlen.mono ?_); (rintro e w9 ⟨rfl, rfl⟩); (go_wp2_with fail)
              (refine (hrc _).mono ?_); (rintro e w9 ⟨rfl, rfl⟩); (go_wp2_with fail)
              refine hfull.mono ?_
              rintro e w6 ⟨rfl, hf6⟩
              have HT6 := hide (HT.out.quiet hf6)
              have y16 : w6.cell? ⟨yb, 1, none⟩ = some (.int .i64 (room : Int)) := HT6.out.y.cell' (i := 1) rfl
              have o06 : w6.cell? ⟨ob, 0, none⟩ = some (.int .i64 1) := (hf6.cell (World.block_lt_of_cell? W1 _ o0) id).trans o0
              clear hf6 hfull o0 o2 o3 y0 y1 y2 p0 cA
              go_wp2_with fail
              exact ⟨⟨m + 1, by go_num, hlt, _, _, _, HT6.out.more⟩, by simp [intOf]; omega⟩
            · have hok := Add_ok W1 HT.out.dr qi l (((ad : Int), c1), c1) HX.out.1 HT.out.nb hcb (by rw [HT.out.rm, hz]; omega)
              simp only [tv] at hok
              have j1 : decide ((z : Int) < (room : Int)) = true := by simp; omega
              have hal : b1.added.length = k := HT.out.bt.la
              have hr0 := HT.out.r0
              have hr1 := HT.out.r1
              clear b6' hz
              go_wp2_with fail
              (try rw [hW1])
              (try rw [hob])
              (try simp only [hob])
              clear hW1 hob d0 d1 d2 d3 d4 d5
              (refine (hrd _).mono ?_); (rintro e w9 ⟨rfl, rfl⟩); (go_wp2_with fail)
              (refine hlen.mono ?_); (rintro e w9 ⟨rfl, rfl⟩); (go_wp2_with fail)
              (refine (hrc _).mono ?_); (rintro e w9 ⟨rfl, rfl⟩); (go_wp2_with fail)
              refine hok.mono ?_
              rintro e w6 ⟨rfl, ho⟩
              obtain ⟨hl, ha, hu, b6', hz⟩ := HX.out
              have hbk6 := HT.out.adds ho
              have hadd := added_any w6 p b1 hbk6 qi z ha hu ⟨by omega, by omega, by omega, hr0, by omega, by omega⟩
              have hy6 := HT.out.y.fr ho.choose_spec.2.1 HT.out.yb_dr
              have y16 : w6.cell? ⟨yb, 1, none⟩ = some (.int .i64 (room : Int)) := hy6.cell' (i := 1) rfl
              have Ho := hide ho
              clear ho hbk6 hy6 hok hl ha hu b6' hz o2 o3 y0 y1 y2 p0 cA
              go_wp2_with fail
              refine hadd.mono ?_
              rintro e w7 ⟨rfl, h2⟩
              obtain ⟨hl, ha, hu, b6', hz⟩ := HX.out
              rw [← hz] at h2
              obtain ⟨b', p', s', HT7⟩ := HT.out.add hl ha hu Ho.out h2
              have o07 : w7.cell? ⟨ob, 0, none⟩ = some (.int .i64 1) := by
                have hf1 := Ho.out.choose_spec.2.1
                obtain ⟨_, -, -, hf2, -⟩ := h2
                have g1 : ¬ drfoot d L s1 ob := fun e => by
                  obtain ⟨t, cs, hc, ht⟩ := HT.out.dr.ty e
                  have := (HO.out.same hc).2
                  subst this
                  revert ht; decide
                have g2 : ¬ bfoot p ob := fun e => by
                  obtain ⟨t, cs, hc, ht⟩ := HT.out.bk.ty e
                  have := (HO.out.same hc).2
                  subst this
                  revert ht; decide
                exact ((HO.out.fr hf1 g1).fr hf2 g2).cell' (i := 0) rfl
              have HT7' := hide HT7
              clear HT7 h2 hl ha hu b6' hz hadd
              go_wp2_with fail
              exact ⟨⟨m + 1, by go_num, hlt, _, _, _, HT7'.out⟩, by simp [intOf]; omega⟩
          · by_cases k4 : kk = 4
            · subst k4
              have hwh := whole_any W1 p b1 d L k room q s1 HT.out.bk HT.out.dr HT.out.bt HT.out.nb ⟨HT.out.r0, by have := HT.out.r1; omega⟩ (fun a ha => by have := HT.out.ba a ha; omega) ⟨by omega, by omega⟩
              go_wp2_with fail
              (try rw [hW1])
              (try rw [hob])
              (try simp only [hob])
              clear hW1 hob d0 d1 d2 d3 d4 d5
              (refine (hrd _).mono ?_); (rintro e w9 ⟨rfl, rfl⟩); (go_wp2_with fail)
              refine hwh.mono ?_
              rintro e w6 ⟨rfl, ho⟩
              obtain ⟨b', s', HT7⟩ := HT.out.whole ho
              have HT7' := hide HT7
              clear HT7 ho hwh o0 o2 o3 y0 y1 y2
              go_wp2_with fail
              exact ⟨⟨m + 1, by go_num, hlt, _, _, _, HT7'.out⟩, by simp [intOf]; omega⟩
            · go_wp2_with fail
              (try rw [hW1])
              (try rw [hob])
              (try simp only [hob])
              clear hW1 hob d0 d1 d2 d3 d4 d5
              (refine (hrd _).mono ?_); (rintro e w9 ⟨rfl, rfl⟩); (go_wp2_with fail)
              exact ⟨⟨m + 1, by go_num, hlt, _, _, _, HT.out.more⟩, by simp [intOf]; omega⟩
        · obtain rfl : m = sn := by omega
          have HT := hide hT
          clear hT
          go_wp2_with fail
          go_ret
          exact ⟨rfl, HT.out.fr.toBelow (Nat.le_refl _) (fun _ _ => id)⟩
end Go.Proofs.Ytanfhmebjgmdpaa.Qj
