/-
  DiskCrash: the walk.
-/
import Derived.Test.YthcklgelbckffaaDkV
import Derived.Test.YthcklgelbckffaaReg
import Derived.Deep.CutBlock
namespace Go.Proofs.Ythcklgelbckffaa
open Go.RowKit
set_option linter.unusedVariables false
set_option linter.unusedSimpArgs false
theorem infoLaid : (Try.prog.info? 37).map (fun i => (i.zero, i.size, i.bytes)) = some (some (.agg #[.int .i64 0, .slice none 0 0]), 2, 32) := by kernel_rfl
theorem DN.apart {W w : World} {p n : Nat} {F : Nat → Prop} {s : DS} (h : DN W w p n F s) {A : Option Addr} {m : Nat} {xs : List Value} (hS : Sl W 1 A m xs) : 0 < m → ∀ b, (∃ o, A = some ⟨b, o, none⟩) → ¬ F b := by
  rintro hm b ⟨o, rfl⟩ hF
  have hl := hS.1
  obtain ⟨b', o', e, c⟩ := hS.at_ (List.getElem?_eq_getElem (show 0 < xs.length by omega))
  cases e
  have h1 := World.block_lt_of_cell? W _ c
  have h2 := h.new b hF
  simp only at h1
  omega
def iv (z : Int) : Value := .int .i64 z
set_option maxHeartbeats 16000000 in
set_option maxRecDepth 100000 in
theorem crash_walk (W : World) (sectors fuse : Int) (hfu : fuse ≤ 9223372036854775807) (WA : Option Addr) (wl wc : Nat) (xss : List (List Nat)) (hwl : wl ≤ 1048576) (hX : LAt W W.heap.size WA wl xss)
    (PA : Option Addr) (pl pc : Nat) (ps : List Int) (hpl : pl = ps.length) (hP : Sl W 1 PA pl (ps.map iv)) (YA : Option Addr) (yl yc : Nat) (ys : List Bool) (hyl : yl = ys.length) (hY : Sl W 1 YA yl (ys.map .bool))
    (KA : Option Addr) (kn kc : Nat) (kk : List Bool) (hkn : kn = kk.length) (hK : Sl W 1 KA kn (kk.map .bool)) (tn ct : Int) :
    Calls Try.prog 3 #[.int .i64 sectors, .int .i64 fuse, .slice WA wl wc, .slice PA pl pc, .slice YA yl yc, .slice KA kn kc, .int .i64 tn, .int .i64 ct] W fun e w' => e = .returned (.bool true) ∧ Fr (fun _ => False) W w' := by
  obtain ⟨j0, jj, jj0, jj1, jj2⟩ := info_parts infoLaid
  have HX := hide hX
  have HP := hide hP
  have HY := hide hY
  have HK := hide hK
  have Hkn := hide hkn
  have Hyl := hide hyl
  have Hpl := hide hpl
  clear hX hP hY hK hkn hyl hpl
  go_enter Try.func3, Try.ntmps3
  go_wp2_with fail
  refine (awake_any W).mono ?_
  rintro e w1 ⟨rfl, hf1⟩
  have H1 := hide hf1
  clear hf1
  obtain ⟨sg, hsg⟩ : ∃ sg : Int, (if 64 < sectors then 64 else sectors) = sg := ⟨_, rfl⟩
  go_upto_if 34 with fail
  go_cut [0] (fun s0 wx => s0 = .int .i64 sg ∧ wx = w1)
  case first =>
    by_cases h4 : 64 < sectors
    · rw [if_pos h4] at hsg
      go_wp2_with fail
      go_meet
      case rel => exact ⟨by first | rfl | rw [hsg], rfl⟩
    · rw [if_neg h4] at hsg
      go_wp2_with fail
      go_meet
      case rel => exact ⟨by first | rfl | rw [hsg], rfl⟩
  case rest =>
    obtain ⟨rfl, hwc⟩ := hcut
    obtain rfl := hwc.symm
    have hsg2 : sg ≤ 64 := by split at hsg <;> omega
    clear hsg
    go_wp2_with fail
    by_cases hbad : sg < 1
    · refine (new_bad w1 sg (.inl hbad)).mono ?_
      rintro e w' ⟨rfl, rfl⟩
      go_wp2_with fail
      refine (num_any _ _).mono ?_
      rintro e w' ⟨rfl, rfl⟩
      go_wp2_with fail
      go_ret
      exact ⟨rfl, H1.out⟩
    obtain ⟨n, rfl⟩ : ∃ n : Nat, sg = (n : Int) := ⟨sg.toNat, by omega⟩
    have hn1 : 1 ≤ n := by omega
    have hn2 : n ≤ 64 := by omega
    clear hbad hsg2
    refine (new_ok w1 n hn1 (by omega)).mono ?_
    intro e w2 hN
    obtain ⟨p, F, rfl, hDN⟩ := DN.of hN
    have HN := hide (hDN.base H1.out)
    clear hN hDN H1
    go_wp2_with fail
    refine (num_any _ _).mono ?_
    rintro e w' ⟨rfl, rfl⟩
    go_wp2_with fail
    obtain ⟨f0, hf0⟩ : ∃ f0 : Int, (if fuse < 0 then -1 else fuse) = f0 := ⟨_, rfl⟩
    refine (fuse_is (s' := { newS n with fuse := f0 }) HN.out fuse hfu (by rw [← hf0])).mono ?_
    rintro e w3 ⟨rfl, F2, hDN, -, -⟩
    have HI : Hid (CrashIn W w3 p n fuse 0 0 F2 { newS n with fuse := f0 } none 0 0 none []) := ⟨hDN, LaidIn.nil_, rfl, Nat.le_refl _, by
      refine ⟨fun h => ?_, fun h => ?_⟩
      · show f0 = -1; rw [← hf0, if_pos h]
      · show f0 = fuse - ((0 : Nat) : Int) ∧ _; rw [← hf0, if_neg (by omega)]; omega⟩
    clear hDN HN hf0
    go_wp2_with fail
    go_loopw [19, 20, 21] (fun vr va v wr => ∃ (i acts : Nat) (s : DS) (F : Nat → Prop) (RA : Option Addr) (rl rc : Nat) (g : Option Nat) (vs : List (Nat × Nat × Nat)), i ≤ wl ∧ i ≤ pl ∧ vr = .slice RA rl rc ∧ va = .int .i64 acts ∧ v = .int .i64 i ∧ Hid (CrashIn W wr p n fuse (2 * i) acts F s RA rl rc g vs)) (fun _ _ v _ => wl - (intOf v).toNat)
    case atStart => exact ⟨0, 0, _, _, _, _, _, _, _, Nat.zero_le _, Nat.zero_le _, rfl, rfl, rfl, HI⟩
    case round =>
      clear HI
      obtain ⟨w4, rfl⟩ : ∃ w4, w4 = wr := ⟨_, rfl⟩
      obtain ⟨i, acts, s, F, RA, rl, rc, g, vs, hi, hip, rfl, rfl, rfl, HI⟩ := hrel
      have hle := HI.out.le
      have hrls : rl = s.row.length := HI.out.laid.hrl
      have hrw := HI.out.dn.di.ok.c1
      have hcts := HI.out.ct
      by_cases hlt : i < wl ∧ i < pl
      · obtain ⟨hlw, hlp⟩ := hlt
        obtain ⟨wb, wo, rfl, hwb, hwc'⟩ := HX.out.2 (by omega)
        have hxl : i < xss.length := by rw [← HX.out.1]; exact hlw
        obtain ⟨V, vm, vd, c0w, hv1, hv2, hV, hv3⟩ := hwc' i hxl
        obtain ⟨x, hx⟩ : ∃ x, xss[i] = x := ⟨_, rfl⟩
        rw [hx] at hV
        have hpl2 : i < ps.length := by rw [← Hpl.out]; exact hlp
        obtain ⟨z, hz⟩ : ∃ z, ps[i]? = some z := ⟨_, List.getElem?_eq_getElem hpl2⟩
        obtain ⟨pb, po, rfl, c1w⟩ := HP.out.at_ (show (ps.map iv)[i]? = some (iv z) by rw [List.getElem?_map, hz]; rfl)
        have hpb : pb < W.heap.size := World.block_lt_of_cell? W _ c1w
        have c0 := (HI.out.dn.fr.cell (World.block_lt_of_cell? W _ c0w) id).trans c0w
        have c1 : w4.cell? ⟨pb, po + i, none⟩ = some (.int .i64 z) := (HI.out.dn.fr.cell (World.block_lt_of_cell? W _ c1w) id).trans c1w
        have hvl : vm = x.length := by have := hV.1; simpa using this.symm
        obtain ⟨er, her⟩ : ∃ er, writeN n s z vm = er := ⟨_, rfl⟩
        have hcall : ∀ wx, Fr (fun _ => False) w4 wx → Calls Try.prog 12 #[.pointer (some ⟨p, 0, none⟩), .int .i64 z, .slice V vm vd] wx fun e w' => e = .returned (.int .i64 er) ∧ ∃ F', DN W w' p n F' (s.writeS n z x) ∧ Fr F wx w' ∧ ∀ k, k < wx.heap.size → F' k → F k := fun wx hf => by
          have h := write_arg (HI.out.dn.step hf).di z V vm vd x hvl (hV.below (HI.out.dn.fr.trans hf) (fun _ _ => id)) (by omega) (by omega) ((HI.out.dn.step hf).apart hV)
          rw [her] at h
          exact h.mono fun e w' ⟨h1, h2⟩ => ⟨h1, (HI.out.dn.step hf).out h2⟩
        have hFp : ¬ F pb := fun e => by have := HI.out.dn.new pb e; omega
        have hFw : ¬ F wb := fun e => by have := HI.out.dn.new wb e; omega
        have i1 : (0 : Int) ≤ (i : Int) := by omega
        have i2 : (i : Int) < (wl : Int) := by omega
        have i3 : (i : Int) < (pl : Int) := by omega
        have hrb : rl ≤ 2100000 := by omega
        have Her := hide her
        have HV := hide hV
        have Hvl := hide hvl
        have Hrls := hide hrls
        clear her hV hvl hv1 hv2 hv3 hwc' hz hx hrls
        go_wp2_with fail
        go_region_held3 (fun w' => w'.cell? ⟨pb, po + i, none⟩ = some (.int .i64 z) ∧ w'.cell? ⟨wb, wo + i, none⟩ = some (.slice V vm vd)) (go_keep) ((go_at_call 12; refine (hcall _ (by exact (Fr.refl (fun _ => False) _).drew)).mono ?_; rintro e w5 ⟨rfl, F5, hD5, hf5, hF5⟩; have y1 := (hf5.cell (World.block_lt_of_cell? w4 _ c1) hFp).trans c1; have y0 := (hf5.cell (World.block_lt_of_cell? w4 _ c0) hFw).trans c0))
        have hf45 : Fr F w4 w5 := (Fr.refl _ _).drew.trans hf5
        have hF45 : ∀ k, k < w4.heap.size → F5 k → F k := hF5
        have hL5 := hide (HI.out.laid.out hf45 hF45)
        have HD5 := hide hD5
        have hfuo := hide HI.out.fu
        clear hD5 hf5 hF5 hf45 hF45 hcall HI hFp hFw
        go_wp2_with fail
        refine (num_any _ _).mono ?_
        rintro e w' ⟨rfl, rfl⟩
        go_upto_if 76 with fail
        go_cut [19, 20] (fun vr va wx => ∃ (acts' : Nat) (s' : DS) (F' : Nat → Prop) (RA' : Option Addr) (rl' rc' : Nat) (g' : Option Nat) (vs' : List (Nat × Nat × Nat)), vr = .slice RA' rl' rc' ∧ va = .int .i64 acts' ∧ Hid (CrashIn W wx p n fuse (2 * i + 1) acts' F' s' RA' rl' rc' g' vs'))
        case first =>
          by_cases he : er = 0
          · subst he
            have hw0 : writeN n s z x.length = 0 := by have := Her.out; rwa [Hvl.out] at this
            have hsf : s.fuse ≠ 0 := fun e => by rw [writeN, if_pos e] at hw0; omega
            have hws : s.writeS n z x = s.write z.toNat x := by unfold DS.writeS; rw [if_pos hw0]
            have hx64 : x.length = 64 := by
              unfold writeN at hw0; rw [if_neg hsf] at hw0
              split at hw0
              · omega
              · split at hw0
                · omega
                · rename_i h; exact Decidable.not_not.1 h
            have hz0 : ∃ k : Nat, z = (k : Int) := by
              unfold writeN at hw0; rw [if_neg hsf] at hw0
              split at hw0
              · omega
              · rename_i h; exact ⟨z.toNat, by omega⟩
            obtain ⟨k, rfl⟩ := hz0
            rw [Int.toNat_natCast] at hws
            obtain rfl : vm = 64 := by rw [Hvl.out, hx64]
            rw [hws] at HD5
            have Hx64 := hide hx64
            have Hsf := hide hsf
            have qw : IntKind.i64.wrap ((acts : Int) + 1) = ((acts + 1 : Nat) : Int) := by rw [IntWalk.i64_in _ (by omega)]; omega
            have hgp : ¬ some pb = g := fun e => by have := (hL5.out.off pb e.symm).2; omega
            have hgw : ¬ some wb = g := fun e => by have := (hL5.out.off wb e.symm).2; omega
            have hR := hL5.out.ow
            have hVl5 := HV.out.below HD5.out.fr (fun _ _ => id)
            have hln : ∀ wx, Fr (fun _ => False) w5 wx → Calls Try.prog 13 #[.slice V 64 vd] wx fun e w' => ∃ A c g, e = .returned (.slice A 64 c) ∧ Ow w' 5 1 A 64 c (x.map bn) (some g) ∧ wx.heap.size ≤ g ∧ Fr (fun _ => False) wx w' := fun wx hf =>
              (lent_any wx x V 64 vd (by omega) (hVl5.below hf (fun _ _ => id))).mono fun e w' ⟨A, c, g, h1, h2, h3, h4⟩ => ⟨A, c, g, h1, h2.own Hx64.out.symm, h3, h4⟩
            clear hw0 hws hx64 hsf Her c0 c1 HV hVl5
            go_wp2_with fail
            go_region_held3 (fun w' => w'.cell? ⟨pb, po + i, none⟩ = some (.int .i64 (k : Int)) ∧ w'.cell? ⟨wb, wo + i, none⟩ = some (.slice V 64 vd)) (go_keep) (first
              | (go_at_call 13; refine (hln _ (by exact (Fr.refl (fun _ => False) _).drew)).mono ?_; rintro e w6 ⟨A6, c6, g6, rfl, hO6, hg6, hf6⟩; have u1 := (hf6.cell (World.block_lt_of_cell? w5 _ y1) id).trans y1; have u0 := (hf6.cell (World.block_lt_of_cell? w5 _ y0) id).trans y0)
              | (refine step_append_ow _ (by rfl) _ _ 32 (by rfl) 37 j0 _ 2 32 Try.underlying32 jj jj0 jj1 jj2 rfl (by decide) _ _ _ _ _ (by rfl) (hR.fr (S := fun _ => False) (Fr.alloc (Fr.trans (by exact (Fr.refl _ _).drew) hf6) _) (fun _ _ => id)) _ _ _ [.int .i64 (k : Int), .slice A6 64 c6] (by rfl) (Sl.row _ _ _ 2 1 rfl) (by intro u hu; simp at hu; rcases hu with rfl | rfl <;> rfl) (by unfold maxLen; omega) (by omega) ?_; intro R7 rc7 w7 g7 hR7 hf7 hg7; have hf67 := Fr.comp (Fr.alloc (Fr.refl (fun k => some k = g) w6) _) hf7 (fun _ _ e => e); have t1 := (hf67.cell (World.block_lt_of_cell? w6 _ u1) hgp).trans u1; have t0 := (hf67.cell (World.block_lt_of_cell? w6 _ u0) hgw).trans u0))
            go_wp2_with fail
            go_meet
            case rel =>
              have hf56 : Fr (fun _ => False) w5 w6 := (Fr.refl _ _).drew.trans hf6
              obtain ⟨hl6, h0 | ⟨b6, o6, cur6, rfl, hgb, hrest6⟩⟩ := id hO6
              · exact absurd h0.2.1 (by omega)
              cases hgb
              have hg6' : w5.heap.size ≤ g6 := hg6
              have hL6 := hL5.out.step hf56
              have hD6 := HD5.out.step hf56
              have hg7' : g7 = g ∨ ∃ y, g7 = some y ∧ w6.heap.size ≤ y := hg7.imp id fun ⟨b, e, h⟩ => ⟨b, e, by first | omega | (simp at h; omega)⟩
              have hlt5 := HD5.out.di.lt (k := g6)
              have hL7 := hL6.grow hD6.fr.size (fun k hk => hD6.di.lt hk) (k := k) (x := x) hO6 (fun e => by have := hlt5 e; omega) (fun e => by have := hL5.out.ow.lt g6 e; omega) hR7 hf67 hg7'
              have hD7 := hD6.turn hf67 (fun k hk => (hL6.off k hk.symm).1) (fun k hk => (hL6.off k hk.symm).2)
              have e1 : s.wr + s.sy = acts := hcts
              exact ⟨acts + 1, _, _, _, _, _, _, _, rfl, rfl, ⟨hD7, hL7, by show s.wr + 1 + s.sy = _; omega, by omega, hfuo.out.act Hsf.out⟩⟩
          · have hb : (er == 0) = false := by simpa using he
            have hws : s.writeS n z x = s := by have := Her.out; rw [Hvl.out] at this; unfold DS.writeS; rw [if_neg (by omega)]
            rw [hws] at HD5
            clear hws he Her
            go_wp2_with fail
            go_meet
            case rel => exact ⟨acts, s, _, _, _, _, _, _, rfl, rfl, ⟨HD5.out, hL5.out, hcts, by omega, hfuo.out⟩⟩
        case rest =>
          obtain ⟨acts', s', F', RA', rl', rc', g', vs', rfl, rfl, HI⟩ := hcut
          replace HI := HI.out
          replace HI := hide HI
          clear y0 y1 c0 c1 HD5 hL5 hfuo HV Her Hvl hle hrw hcts Hrls
          clear hrb
          obtain ⟨yb, hyb⟩ : ∃ yb, ys.getD i false = yb := ⟨_, rfl⟩
          go_upto_region 18 with fail
          go_cut [101] (fun v wx => v = .bool yb ∧ wx = wc)
          case first =>
            by_cases hyn : i < yl
            · have hkl : i < ys.length := by rw [← Hyl.out]; exact hyn
              have hbn : (ys.map Value.bool)[i]? = some (.bool yb) := by
                rw [← hyb, List.getElem?_map, List.getElem?_eq_getElem hkl, List.getD_eq_getElem?_getD, List.getElem?_eq_getElem hkl]; rfl
              obtain ⟨ab, ko, rfl, hkc⟩ := HY.out.at_ hbn
              have hkc2 := (HI.out.dn.fr.cell (World.block_lt_of_cell? W _ hkc) id).trans hkc
              have i5 : (i : Int) < (yl : Int) := by omega
              clear hkc hbn hyb
              go_wp2_with fail
              go_meet
              case rel => exact ⟨rfl, rfl⟩
            · have i5 : ¬ (i : Int) < (yl : Int) := by omega
              have e : yb = false := by rw [← hyb, List.getD_eq_getElem?_getD, List.getElem?_eq_none (by rw [← Hyl.out]; omega)]; rfl
              clear hyb
              subst e
              go_wp2_with fail
              go_meet
              case rel => exact ⟨rfl, rfl⟩
          case rest =>
            obtain ⟨rfl, hwc⟩ := hcut
            obtain ⟨w8, rfl⟩ : ∃ w8, w8 = wc := ⟨_, rfl⟩
            subst hwc
            clear hyb
            have hle' := HI.out.le
            have hct' := HI.out.ct
            have qw : IntKind.i64.wrap ((acts' : Int) + 1) = ((acts' + 1 : Nat) : Int) := by rw [IntWalk.i64_in _ (by omega)]; omega
            go_upto_if 101 with fail
            go_cut [19, 20] (fun vr va wx => ∃ (a2 : Nat) (s2 : DS) (F3 : Nat → Prop) (RB : Option Addr) (rk rd : Nat) (g3 : Option Nat) (vs2 : List (Nat × Nat × Nat)), vr = .slice RB rk rd ∧ va = .int .i64 a2 ∧ Hid (CrashIn W wx p n fuse (2 * i + 2) a2 F3 s2 RB rk rd g3 vs2))
            case first =>
              cases yb
              · go_wp2_with fail
                go_meet
                case rel => exact ⟨_, _, _, _, _, _, _, _, rfl, rfl, HI.out.more (by omega)⟩
              · obtain ⟨er2, her2⟩ : ∃ e, syncN s' = e := ⟨_, rfl⟩
                go_wp2_with fail
                refine (sync_any HI.out.dn.di (by omega)).mono ?_
                rintro e w9 ⟨rfl, hd⟩
                rw [her2]
                obtain ⟨F9, hD9, hf9, hF9⟩ := HI.out.dn.out hd
                have HL9 := hide (HI.out.laid.out hf9 hF9)
                have HD9 := hide hD9
                have Her2 := hide her2
                clear hd hD9 hf9 hF9 her2
                by_cases he : er2 = 0
                · subst he
                  have hsf : s'.fuse ≠ 0 := fun e => by have := Her2.out; rw [syncN, if_pos e] at this; omega
                  have hws : s'.syncS = s'.sync := by unfold DS.syncS; rw [if_pos Her2.out]
                  have hD := HD9.out
                  rw [hws] at hD
                  have HD := hide hD
                  have Hsf := hide hsf
                  clear hD hws hsf
                  go_wp2_with fail
                  refine (num_any _ _).mono ?_
                  rintro e w' ⟨rfl, rfl⟩
                  go_wp2_with fail
                  go_meet
                  case rel => exact ⟨acts' + 1, _, _, _, _, _, _, _, rfl, rfl, ⟨HD.out, LaidIn.nil_, by show s'.wr + (s'.sy + 1) = _; omega, by omega, HI.out.fu.act Hsf.out⟩⟩
                · have hb : (er2 == 0) = false := by simpa using he
                  have hws : s'.syncS = s' := by have := Her2.out; unfold DS.syncS; rw [if_neg (by omega)]
                  have hD := HD9.out
                  rw [hws] at hD
                  have HD := hide hD
                  clear hD hws he
                  go_wp2_with fail
                  refine (num_any _ _).mono ?_
                  rintro e w' ⟨rfl, rfl⟩
                  go_wp2_with fail
                  go_meet
                  case rel => exact ⟨acts', _, _, _, _, _, _, _, rfl, rfl, ⟨HD.out, HL9.out, hct', by omega, HI.out.fu⟩⟩
            case rest =>
              obtain ⟨a2, s2, F3, RB, rk, rd, g3, v3, rfl, rfl, HJ⟩ := hcut
              replace HJ := HJ.out
              have hrk : rk = s2.row.length := HJ.laid.hrl
              have hfo := HJ.fu
              replace HJ := hide HJ
              clear HI qw hle' hct'
              go_wp2_with fail
              refine (waiting_any HJ.out.dn.di).mono ?_
              rintro e w' ⟨rfl, rfl⟩
              rw [← hrk]
              have Hrk := hide hrk
              clear hrk
              by_cases hf0 : fuse < 0
              · have hs1 := hfo.1 hf0
                have hb1 : ¬ (0 : Int) ≤ fuse := by omega
                clear hfo
                go_wp2_with fail
                refine (power_any HJ.out.dn.di).mono ?_
                rintro e w' ⟨rfl, rfl⟩
                rw [hs1]
                have e1 : decide ((-1 : Int) ≠ 0) = true := by decide
                rw [e1]
                clear e1 hs1
                go_wp2_with fail
                exact ⟨⟨i + 1, a2, s2, F3, RB, rk, rd, g3, v3, by omega, by omega, rfl, rfl, by go_num, by have h := HJ.out; rwa [show 2 * i + 2 = 2 * (i + 1) by omega] at h⟩, by simp [intOf]; omega⟩
              · obtain ⟨hs1, hs2⟩ := hfo.2 (by omega)
                have hb1 : (0 : Int) ≤ fuse := by omega
                have hb2 : ¬ fuse < (a2 : Int) := by omega
                clear hfo
                go_wp2_with fail
                refine (power_any HJ.out.dn.di).mono ?_
                rintro e w' ⟨rfl, rfl⟩
                obtain ⟨pw, hpw⟩ : ∃ pw, decide (s2.fuse ≠ 0) = pw := ⟨_, rfl⟩
                rw [hpw]
                have hpw2 : decide ((a2 : Int) < fuse) = pw := by rw [← hpw]; exact decide_eq_decide.2 (by omega)
                cases pw
                · have hb3 : ¬ (a2 : Int) < fuse := of_decide_eq_false hpw2
                  clear hpw hpw2 hs1
                  go_wp2_with fail
                  exact ⟨⟨i + 1, a2, s2, F3, RB, rk, rd, g3, v3, by omega, by omega, rfl, rfl, by go_num, by have h := HJ.out; rwa [show 2 * i + 2 = 2 * (i + 1) by omega] at h⟩, by simp [intOf]; omega⟩
                · have hb3 : (a2 : Int) < fuse := of_decide_eq_true hpw2
                  clear hpw hpw2 hs1
                  go_wp2_with fail
                  exact ⟨⟨i + 1, a2, s2, F3, RB, rk, rd, g3, v3, by omega, by omega, rfl, rfl, by go_num, by have h := HJ.out; rwa [show 2 * i + 2 = 2 * (i + 1) by omega] at h⟩, by simp [intOf]; omega⟩
      have q1 : IntKind.i64.wrap ((s.wr : Int) + (s.sy : Int)) = (acts : Int) := by rw [IntWalk.i64_in _ (by omega)]; omega
      have HI4 := hide HI.out
      clear hrw hcts hle HI hrls
      obtain ⟨m, hmn⟩ : ∃ m, m = n * 64 := ⟨_, rfl⟩
      have q3 : IntKind.i64.wrap (64 * (n : Int)) = (m : Int) := by rw [IntWalk.i64_in _ (by omega)]; omega
      have hm0 : 1 ≤ m := by omega
      have hm2 : m ≤ 4096 := by omega
      have Hmn := hide hmn
      clear hmn
      by_cases hlw : i < wl
      · have hlp : ¬ (i : Int) < (pl : Int) := by omega
        have hlw2 : (i : Int) < (wl : Int) := by omega
        clear hlt hi hip hlw
        go_wp2_with fail
        refine (acts_any HI4.out.dn.di).mono ?_
        rintro e w5 ⟨rfl, hfr⟩
        have HI5 := hide (HI4.out.step hfr)
        clear hfr HI4
        go_wp2_with fail
        refine (image_is HI5.out.dn m (by rw [HI5.out.dn.di.ok.len, Hmn.out])).mono ?_
        rintro e w6 ⟨Aw, gw, rfl, hDN, hO, hg, hfr⟩
        obtain ⟨bw, ow, rfl, hK, hnew, -⟩ := Kp.made HI5.out.dn.di hO hg (by omega)
        have HI6 := hide (HI5.out.step hfr)
        have Kw := hide hK
        clear hDN hO hg hfr hK hnew HI5
        go_wp2_with fail
        have hok := HI6.out.dn.di.ok
        obtain ⟨s4, hs4⟩ : ∃ s4, s.crash kk tn ct = s4 := ⟨_, rfl⟩
        have hr4 : s4.row = [] := by rw [← hs4]; rfl
        have hf4 : s4.fuse ≠ 0 := by rw [← hs4]; show (-1 : Int) ≠ 0; omega
        have hl4 : s4.sf.length = m := by rw [← hs4, Hmn.out]; exact crashTo_len hok.len hok.row _ (Nat.le_refl _)
        have hrl : rl = s.row.length := HI6.out.laid.hrl
        have hro : ∀ k, k < n → readN n s4 (k : Int) = 0 ∧ s4.readS n (k : Int) = sec s4.sf k ∧ beats kk tn ct (sec s.sf k) k s.row rl = sec s4.sf k := fun k hk => by
          have h1 := readS_at (n := n) hf4 hk
          refine ⟨h1.1, by rw [h1.2, told_sf k hr4], ?_⟩
          rw [← hs4, hrl]; exact (sec_crash hok.len hk hok.row _ (Nat.le_refl _)).symm
        have hrow64 : ∀ r ∈ s.row, r.2.length = 64 := fun r hr => (hok.row r hr).2
        have hsl : s.sf.length = m := by rw [hok.len, Hmn.out]
        refine (crash_arg HI6.out.dn.di KA kn kc kk Hkn.out (HK.out.below HI6.out.dn.fr (fun _ _ => id)) tn ct (HI6.out.dn.apart HK.out)).mono ?_
        rintro e w7 ⟨rfl, hd⟩
        rw [hs4] at hd
        obtain ⟨F7, hD7, hf7, hF7⟩ := HI6.out.dn.out hd
        have HD7 := hide hD7
        have HL7 := hide (HI6.out.laid.out hf7 hF7)
        have Kw7 := hide (Kw.out.out hf7 hF7)
        have Hr4 := hide hr4
        have Hf4 := hide hf4
        have Hl4 := hide hl4
        have Hro := hide hro
        have Hrow64 := hide hrow64
        have Hsl := hide hsl
        have hrlb : rl ≤ 9223372036854775806 := by rw [hrl]; have := hok.c1; have := hok.c2; omega
        clear hok hs4 hr4 hf4 hl4 hro hd hD7 hf7 hF7 HI6 Kw hrow64 hsl hrl
        go_wp2_with fail
        refine (image_is HD7.out m Hl4.out).mono ?_
        rintro e w8 ⟨Ai, gi, rfl, hDN, hO, hg, hfr⟩
        obtain ⟨bi, oi, rfl, hK, hnew, -⟩ := Kp.made HD7.out.di hO hg (by omega)
        have HD8 := hide hDN
        have HL8 := hide (HL7.out.step hfr)
        have Kw8 := hide (Kw7.out.step hfr)
        have Ki8 := hide hK
        clear hDN hO hg hfr hK hnew HD7 HL7 Kw7
        go_wp2_with fail
        refine (waiting_any HD8.out.di).mono ?_
        rintro e w' ⟨rfl, rfl⟩
        rw [Hr4.out]
        go_wp2_with fail
        refine (power_any HD8.out.di).mono ?_
        rintro e w' ⟨rfl, rfl⟩
        rw [decide_eq_true Hf4.out]
        go_wp2_with fail
        go_loopw [28] (fun v wr => ∃ (j : Nat), j ≤ n ∧ v = .int .i64 j ∧ Hid (Fr (fun _ => False) w8 wr)) (fun v _ => n - (intOf v).toNat)
        case atStart => exact ⟨0, Nat.zero_le _, rfl, Fr.refl _ _⟩
        case round =>
          obtain ⟨x0, rfl⟩ : ∃ x0, x0 = wr := ⟨_, rfl⟩
          obtain ⟨j, hj, rfl, hF0⟩ := hrel
          by_cases hlt : j < n
          · have hrd := Hro.out j hlt
            have HD := hide (HD8.out.step hF0.out)
            have hln : (sec s4.sf j).length = 64 := sec_len (by rw [Hl4.out, Hmn.out]) hlt
            have hln2 : (sec s.sf j).length = 64 := sec_len (by rw [Hsl.out, Hmn.out]) hlt
            have HP := hide (Sl.part (Ki8.out.step hF0.out).sl Hmn.out j hlt)
            have HQ := hide (Sl.part (Kw8.out.step hF0.out).sl Hmn.out j hlt)
            have HL := hide (HL8.out.step hF0.out)
            obtain ⟨t, ht⟩ : ∃ t, j * 64 = t := ⟨_, rfl⟩
            obtain ⟨u, hu⟩ : ∃ u, j * 64 + 64 = u := ⟨_, rfl⟩
            rw [ht] at HP HQ
            have q1 : IntKind.i64.wrap (64 * (j : Int)) = (t : Int) := by rw [IntWalk.i64_in _ (by omega)]; omega
            have q2 : IntKind.i64.wrap ((t : Int) + 64) = (u : Int) := by rw [IntWalk.i64_in _ (by omega)]; omega
            have j1 : (0 : Int) ≤ (t : Int) := by omega
            have j2 : (t : Int) ≤ (u : Int) := by omega
            have j3 : (u : Int) ≤ (m : Int) := by have := Hmn.out; omega
            have j4 : u - t = 64 := by omega
            clear ht hu
            go_wp2_with fail
            refine (read_is HD.out (j : Int) 64 hrd.2.1 hrd.1 hln).mono ?_
            rintro e x1 ⟨Ar, gr, er, rfl, hDN, hO, hg, hfr⟩
            have HO := hide hO
            have HP1 := hide (HP.out.below hfr (fun _ _ => id))
            have HQ1 := hide (HQ.out.below hfr (fun _ _ => id))
            have HL1 := hide (HL.out.step hfr)
            have HF1 := hide (hF0.out.trans hfr)
            have Hln := hide hln
            have Hln2 := hide hln2
            have Hrd := hide hrd.2.2
            clear hDN hO hg hfr HP HQ HL hrd hln hln2 HD hF0
            go_wp2_with fail
            refine (num_any _ _).mono ?_
            rintro e w' ⟨rfl, rfl⟩
            go_wp2_with fail
            refine (same_q x1 (sec s4.sf j) _ _ _ _ 64 Hln.out.symm (by omega) HO.out.sl HP1.out).mono ?_
            rintro e x2 ⟨rfl, hd⟩
            have hfd := fr_of_drewN hd
            have HO2 := hide (HO.out.fr hfd (fun _ _ => id))
            have HQ2 := hide (HQ1.out.below hfd (fun _ _ => id))
            have HL2 := hide (HL1.out.step hfd)
            have HF2 := hide (HF1.out.trans hfd)
            clear hd hfd HO HP1 HQ1 HL1 HF1
            go_wp2_with fail
            refine (became_any x2 _ _ (sec s.sf j) Hln2.out HQ2.out RA rl rc s.row hrlb HL2.out.at_ Hrow64.out j KA kn kc kk Hkn.out (HK.out.below ((HD8.out.fr).trans HF2.out) (fun _ _ => id)) tn ct).mono ?_
            rintro e x3 ⟨Ab, cb, gb, rfl, hO3, hf3⟩
            rw [Hrd.out] at hO3
            have HO3 := hide hO3
            have HO4 := hide (HO2.out.fr hf3 (fun _ _ => id))
            have HF3 := hide (HF2.out.trans hf3)
            clear hO3 hf3 HO2 HQ2 HL2 HF2 Hrd
            go_wp2_with fail
            refine (same_q x3 (sec s4.sf j) _ _ _ _ 64 Hln.out.symm (by omega) HO4.out.sl HO3.out.sl).mono ?_
            rintro e x4 ⟨rfl, hd⟩
            have HF4 := hide (HF3.out.trans (fr_of_drewN hd))
            clear hd HO3 HO4 HF3
            go_wp2_with fail
            exact ⟨⟨j + 1, by omega, by go_num, HF4.out⟩, by simp [intOf]; omega⟩
          · obtain rfl : n = j := by omega
            have HD := hide (HD8.out.step hF0.out)
            have Ki := hide (Ki8.out.step hF0.out)
            clear hlt hj hF0 HD8 Ki8 HL8 Kw8
            go_wp2_with fail
            refine (crash_is (s' := s4.crash [true, true] 0 1) (HD.out.step ((Fr.refl _ _).alloc _)) _ 2 2 [true, true] rfl (Sl.row x0 [.bool true, .bool true] _ 1 2 rfl) 0 1 rfl (fun b h hF => by obtain ⟨o, h⟩ := h; cases h; exact absurd (HD.out.di.lt hF) (Nat.lt_irrefl _))).mono ?_
            rintro e x1 ⟨rfl, F8, hD, hf, hF⟩
            have hs5 : (s4.crash [true, true] 0 1).sf = s4.sf := by show crashTo _ _ _ s4.sf s4.row s4.row.length = s4.sf; rw [Hr4.out]; rfl
            have HD1 := hide hD
            have Ki1 := hide ((Ki.out.step ((Fr.refl _ _).alloc _)).out hf hF)
            have Hs5 := hide hs5
            clear hD hf hF hs5 HD Ki
            go_wp2_with fail
            refine (image_is HD1.out m (by rw [Hs5.out, Hl4.out])).mono ?_
            rintro e x2 ⟨Az, gz, rfl, hDN, hO, hg, hfr⟩
            rw [Hs5.out] at hO
            have HO := hide hO
            have Ki2 := hide (Ki1.out.step hfr)
            have HD2 := hide hDN
            clear hDN hO hg hfr HD1 Ki1
            go_wp2_with fail
            refine (same_q x2 s4.sf _ _ _ _ m Hl4.out.symm (by omega) HO.out.sl Ki2.out.sl).mono ?_
            rintro e x3 ⟨rfl, hd⟩
            have HE := hide (HD2.out.fr.trans (fr_of_drewN hd))
            clear hd HO Ki2 HD2
            go_wp2_with fail
            go_ret
            exact ⟨rfl, HE.out⟩
      · have hlw2 : ¬ (i : Int) < (wl : Int) := by omega
        clear hlt hi hip hlw
        go_wp2_with fail
        refine (acts_any HI4.out.dn.di).mono ?_
        rintro e w5 ⟨rfl, hfr⟩
        have HI5 := hide (HI4.out.step hfr)
        clear hfr HI4
        go_wp2_with fail
        refine (image_is HI5.out.dn m (by rw [HI5.out.dn.di.ok.len, Hmn.out])).mono ?_
        rintro e w6 ⟨Aw, gw, rfl, hDN, hO, hg, hfr⟩
        obtain ⟨bw, ow, rfl, hK, hnew, -⟩ := Kp.made HI5.out.dn.di hO hg (by omega)
        have HI6 := hide (HI5.out.step hfr)
        have Kw := hide hK
        clear hDN hO hg hfr hK hnew HI5
        go_wp2_with fail
        have hok := HI6.out.dn.di.ok
        obtain ⟨s4, hs4⟩ : ∃ s4, s.crash kk tn ct = s4 := ⟨_, rfl⟩
        have hr4 : s4.row = [] := by rw [← hs4]; rfl
        have hf4 : s4.fuse ≠ 0 := by rw [← hs4]; show (-1 : Int) ≠ 0; omega
        have hl4 : s4.sf.length = m := by rw [← hs4, Hmn.out]; exact crashTo_len hok.len hok.row _ (Nat.le_refl _)
        have hrl : rl = s.row.length := HI6.out.laid.hrl
        have hro : ∀ k, k < n → readN n s4 (k : Int) = 0 ∧ s4.readS n (k : Int) = sec s4.sf k ∧ beats kk tn ct (sec s.sf k) k s.row rl = sec s4.sf k := fun k hk => by
          have h1 := readS_at (n := n) hf4 hk
          refine ⟨h1.1, by rw [h1.2, told_sf k hr4], ?_⟩
          rw [← hs4, hrl]; exact (sec_crash hok.len hk hok.row _ (Nat.le_refl _)).symm
        have hrow64 : ∀ r ∈ s.row, r.2.length = 64 := fun r hr => (hok.row r hr).2
        have hsl : s.sf.length = m := by rw [hok.len, Hmn.out]
        refine (crash_arg HI6.out.dn.di KA kn kc kk Hkn.out (HK.out.below HI6.out.dn.fr (fun _ _ => id)) tn ct (HI6.out.dn.apart HK.out)).mono ?_
        rintro e w7 ⟨rfl, hd⟩
        rw [hs4] at hd
        obtain ⟨F7, hD7, hf7, hF7⟩ := HI6.out.dn.out hd
        have HD7 := hide hD7
        have HL7 := hide (HI6.out.laid.out hf7 hF7)
        have Kw7 := hide (Kw.out.out hf7 hF7)
        have Hr4 := hide hr4
        have Hf4 := hide hf4
        have Hl4 := hide hl4
        have Hro := hide hro
        have Hrow64 := hide hrow64
        have Hsl := hide hsl
        have hrlb : rl ≤ 9223372036854775806 := by rw [hrl]; have := hok.c1; have := hok.c2; omega
        clear hok hs4 hr4 hf4 hl4 hro hd hD7 hf7 hF7 HI6 Kw hrow64 hsl hrl
        go_wp2_with fail
        refine (image_is HD7.out m Hl4.out).mono ?_
        rintro e w8 ⟨Ai, gi, rfl, hDN, hO, hg, hfr⟩
        obtain ⟨bi, oi, rfl, hK, hnew, -⟩ := Kp.made HD7.out.di hO hg (by omega)
        have HD8 := hide hDN
        have HL8 := hide (HL7.out.step hfr)
        have Kw8 := hide (Kw7.out.step hfr)
        have Ki8 := hide hK
        clear hDN hO hg hfr hK hnew HD7 HL7 Kw7
        go_wp2_with fail
        refine (waiting_any HD8.out.di).mono ?_
        rintro e w' ⟨rfl, rfl⟩
        rw [Hr4.out]
        go_wp2_with fail
        refine (power_any HD8.out.di).mono ?_
        rintro e w' ⟨rfl, rfl⟩
        rw [decide_eq_true Hf4.out]
        go_wp2_with fail
        go_loopw [28] (fun v wr => ∃ (j : Nat), j ≤ n ∧ v = .int .i64 j ∧ Hid (Fr (fun _ => False) w8 wr)) (fun v _ => n - (intOf v).toNat)
        case atStart => exact ⟨0, Nat.zero_le _, rfl, Fr.refl _ _⟩
        case round =>
          obtain ⟨x0, rfl⟩ : ∃ x0, x0 = wr := ⟨_, rfl⟩
          obtain ⟨j, hj, rfl, hF0⟩ := hrel
          by_cases hlt : j < n
          · have hrd := Hro.out j hlt
            have HD := hide (HD8.out.step hF0.out)
            have hln : (sec s4.sf j).length = 64 := sec_len (by rw [Hl4.out, Hmn.out]) hlt
            have hln2 : (sec s.sf j).length = 64 := sec_len (by rw [Hsl.out, Hmn.out]) hlt
            have HP := hide (Sl.part (Ki8.out.step hF0.out).sl Hmn.out j hlt)
            have HQ := hide (Sl.part (Kw8.out.step hF0.out).sl Hmn.out j hlt)
            have HL := hide (HL8.out.step hF0.out)
            obtain ⟨t, ht⟩ : ∃ t, j * 64 = t := ⟨_, rfl⟩
            obtain ⟨u, hu⟩ : ∃ u, j * 64 + 64 = u := ⟨_, rfl⟩
            rw [ht] at HP HQ
            have q1 : IntKind.i64.wrap (64 * (j : Int)) = (t : Int) := by rw [IntWalk.i64_in _ (by omega)]; omega
            have q2 : IntKind.i64.wrap ((t : Int) + 64) = (u : Int) := by rw [IntWalk.i64_in _ (by omega)]; omega
            have j1 : (0 : Int) ≤ (t : Int) := by omega
            have j2 : (t : Int) ≤ (u : Int) := by omega
            have j3 : (u : Int) ≤ (m : Int) := by have := Hmn.out; omega
            have j4 : u - t = 64 := by omega
            clear ht hu
            go_wp2_with fail
            refine (read_is HD.out (j : Int) 64 hrd.2.1 hrd.1 hln).mono ?_
            rintro e x1 ⟨Ar, gr, er, rfl, hDN, hO, hg, hfr⟩
            have HO := hide hO
            have HP1 := hide (HP.out.below hfr (fun _ _ => id))
            have HQ1 := hide (HQ.out.below hfr (fun _ _ => id))
            have HL1 := hide (HL.out.step hfr)
            have HF1 := hide (hF0.out.trans hfr)
            have Hln := hide hln
            have Hln2 := hide hln2
            have Hrd := hide hrd.2.2
            clear hDN hO hg hfr HP HQ HL hrd hln hln2 HD hF0
            go_wp2_with fail
            refine (num_any _ _).mono ?_
            rintro e w' ⟨rfl, rfl⟩
            go_wp2_with fail
            refine (same_q x1 (sec s4.sf j) _ _ _ _ 64 Hln.out.symm (by omega) HO.out.sl HP1.out).mono ?_
            rintro e x2 ⟨rfl, hd⟩
            have hfd := fr_of_drewN hd
            have HO2 := hide (HO.out.fr hfd (fun _ _ => id))
            have HQ2 := hide (HQ1.out.below hfd (fun _ _ => id))
            have HL2 := hide (HL1.out.step hfd)
            have HF2 := hide (HF1.out.trans hfd)
            clear hd hfd HO HP1 HQ1 HL1 HF1
            go_wp2_with fail
            refine (became_any x2 _ _ (sec s.sf j) Hln2.out HQ2.out RA rl rc s.row hrlb HL2.out.at_ Hrow64.out j KA kn kc kk Hkn.out (HK.out.below ((HD8.out.fr).trans HF2.out) (fun _ _ => id)) tn ct).mono ?_
            rintro e x3 ⟨Ab, cb, gb, rfl, hO3, hf3⟩
            rw [Hrd.out] at hO3
            have HO3 := hide hO3
            have HO4 := hide (HO2.out.fr hf3 (fun _ _ => id))
            have HF3 := hide (HF2.out.trans hf3)
            clear hO3 hf3 HO2 HQ2 HL2 HF2 Hrd
            go_wp2_with fail
            refine (same_q x3 (sec s4.sf j) _ _ _ _ 64 Hln.out.symm (by omega) HO4.out.sl HO3.out.sl).mono ?_
            rintro e x4 ⟨rfl, hd⟩
            have HF4 := hide (HF3.out.trans (fr_of_drewN hd))
            clear hd HO3 HO4 HF3
            go_wp2_with fail
            exact ⟨⟨j + 1, by omega, by go_num, HF4.out⟩, by simp [intOf]; omega⟩
          · obtain rfl : n = j := by omega
            have HD := hide (HD8.out.step hF0.out)
            have Ki := hide (Ki8.out.step hF0.out)
            clear hlt hj hF0 HD8 Ki8 HL8 Kw8
            go_wp2_with fail
            refine (crash_is (s' := s4.crash [true, true] 0 1) (HD.out.step ((Fr.refl _ _).alloc _)) _ 2 2 [true, true] rfl (Sl.row x0 [.bool true, .bool true] _ 1 2 rfl) 0 1 rfl (fun b h hF => by obtain ⟨o, h⟩ := h; cases h; exact absurd (HD.out.di.lt hF) (Nat.lt_irrefl _))).mono ?_
            rintro e x1 ⟨rfl, F8, hD, hf, hF⟩
            have hs5 : (s4.crash [true, true] 0 1).sf = s4.sf := by show crashTo _ _ _ s4.sf s4.row s4.row.length = s4.sf; rw [Hr4.out]; rfl
            have HD1 := hide hD
            have Ki1 := hide ((Ki.out.step ((Fr.refl _ _).alloc _)).out hf hF)
            have Hs5 := hide hs5
            clear hD hf hF hs5 HD Ki
            go_wp2_with fail
            refine (image_is HD1.out m (by rw [Hs5.out, Hl4.out])).mono ?_
            rintro e x2 ⟨Az, gz, rfl, hDN, hO, hg, hfr⟩
            rw [Hs5.out] at hO
            have HO := hide hO
            have Ki2 := hide (Ki1.out.step hfr)
            have HD2 := hide hDN
            clear hDN hO hg hfr HD1 Ki1
            go_wp2_with fail
            refine (same_q x2 s4.sf _ _ _ _ m Hl4.out.symm (by omega) HO.out.sl Ki2.out.sl).mono ?_
            rintro e x3 ⟨rfl, hd⟩
            have HE := hide (HD2.out.fr.trans (fr_of_drewN hd))
            clear hd HO Ki2 HD2
            go_wp2_with fail
            go_ret
            exact ⟨rfl, HE.out⟩
#print axioms crash_walk
end Go.Proofs.Ythcklgelbckffaa
