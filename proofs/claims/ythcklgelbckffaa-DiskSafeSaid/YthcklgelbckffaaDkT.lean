/-
  DiskSafe: the walk.
-/
import Derived.Test.YthcklgelbckffaaDkQ
import Derived.Test.YthcklgelbckffaaDkS
import Derived.Deep.CutBlock
namespace Go.Proofs.Ythcklgelbckffaa
open Go.RowKit
set_option linter.unusedVariables false
set_option linter.unusedSimpArgs false
/-- The disk in the midst of the script. -/
structure SafeIn (W wr : World) (p n i : Nat) (F : Nat → Prop) (s : DS) : Prop where
  dn : DN W wr p n F s
  ct : s.wr + s.sy ≤ i
theorem SafeIn.small {W wr : World} {p n i : Nat} {F : Nat → Prop} {s : DS} (h : SafeIn W wr p n i F s) (hi : i ≤ 1700000000000) : (s.row.length + 1) * 72 ≤ 140737488355328 ∧ s.wr < 8000000000000000000 ∧ s.sy < 8000000000000000000 := by
  have h1 := h.dn.di.ok.c1
  have h2 := h.ct
  omega
theorem SafeIn.step {W w w' : World} {p n i : Nat} {F : Nat → Prop} {s : DS} (h : SafeIn W w p n i F s) (hf : Fr (fun _ => False) w w') : SafeIn W w' p n i F s := ⟨h.dn.step hf, h.ct⟩
theorem DN.apart {W w : World} {p n : Nat} {F : Nat → Prop} {s : DS} (h : DN W w p n F s) {A : Option Addr} {m : Nat} {xs : List Value} (hS : Sl W 1 A m xs) : 0 < m → ∀ b, (∃ o, A = some ⟨b, o, none⟩) → ¬ F b := by
  rintro hm b ⟨o, rfl⟩ hF
  have hl := hS.1
  obtain ⟨b', o', e, c⟩ := hS.at_ (List.getElem?_eq_getElem (show 0 < xs.length by omega))
  cases e
  have h1 := World.block_lt_of_cell? W _ c
  have h2 := h.new b hF
  simp only at h1
  omega
/-- What a step of the script leaves. -/
structure StepOut (W wx : World) (p n i m bw ow : Nat) (s : DS) (b bo : Bool) (F' : Nat → Prop) (s' : DS) : Prop where
  hI : SafeIn W wx p n (i + 1) F' s'
  kp : Kp wx F' bw ow m s.sf
  same : b = true → bo = decide (s'.fuse ≠ 0) ∧ s'.sf = s.sf ∧ s'.row.length = s.row.length ∧ s'.wr = s.wr ∧ s'.sy = s.sy
  more : b = false → s'.wr + s'.sy = s.wr + s.sy + 1
theorem StepOut.stay {W w wx : World} {p n i m bw ow : Nat} {F : Nat → Prop} {s : DS} (h : SafeIn W w p n i F s) (hK : Kp w F bw ow m s.sf) (hf : Fr (fun _ => False) w wx) : StepOut W wx p n i m bw ow s true (decide (s.fuse ≠ 0)) F s :=
  ⟨⟨h.dn.step hf, Nat.le_succ_of_le h.ct⟩, hK.step hf, fun _ => ⟨rfl, rfl, rfl, rfl, rfl⟩, fun h => by cases h⟩
theorem StepOut.turn {W w wx : World} {p n i m bw ow : Nat} {F : Nat → Prop} {s s' : DS} {b bo : Bool} (h : SafeIn W w p n i F s) (hK : Kp w F bw ow m s.sf) (ho : DOut w p n F s' wx) (hc : s'.wr + s'.sy ≤ i + 1)
    (hs : b = true → bo = decide (s'.fuse ≠ 0) ∧ s'.sf = s.sf ∧ s'.row.length = s.row.length ∧ s'.wr = s.wr ∧ s'.sy = s.sy) (hm : b = false → s'.wr + s'.sy = s.wr + s.sy + 1) : ∃ F', StepOut W wx p n i m bw ow s b bo F' s' := by
  obtain ⟨F', h1, h2, h3⟩ := h.dn.out ho
  exact ⟨F', ⟨h1, hc⟩, hK.out h2 h3, hs, hm⟩
/-- The lists that are read ahead of the sync. -/
structure AheadAt (W wr : World) (p n : Nat) (F : Nat → Prop) (s : DS) (told : Nat → List Nat) (j : Nat) (vs : List Value) (Aa : Option Addr) (ca : Nat) (ga : Option Nat) : Prop where
  dn : DN W wr p n F s
  ow : Ow wr 34 1 Aa j ca vs ga
  off : ∀ b, ga = some b → ¬ F b ∧ W.heap.size ≤ b
  it : ∀ k v, vs[k]? = some v → ∃ b o, v = .slice (some ⟨b, o, none⟩) 64 64 ∧ Kp wr F b o 64 (told k) ∧ ga ≠ some b ∧ W.heap.size ≤ b
theorem AheadAt.step {W w w' : World} {p n j ca : Nat} {F : Nat → Prop} {s : DS} {told : Nat → List Nat} {vs : List Value} {Aa : Option Addr} {ga : Option Nat} (h : AheadAt W w p n F s told j vs Aa ca ga) (hf : Fr (fun _ => False) w w') : AheadAt W w' p n F s told j vs Aa ca ga :=
  ⟨h.dn.step hf, h.ow.fr hf (fun _ _ => id), h.off, fun k v hv => by obtain ⟨b, o, h1, h2, h3, h4⟩ := h.it k v hv; exact ⟨b, o, h1, h2.step hf, h3, h4⟩⟩
theorem AheadAt.out {W w w' : World} {p n j ca : Nat} {F F' : Nat → Prop} {s s' : DS} {told : Nat → List Nat} {vs : List Value} {Aa : Option Addr} {ga : Option Nat} (h : AheadAt W w p n F s told j vs Aa ca ga) (hd : DN W w' p n F' s') (hf : Fr F w w') (hF : ∀ k, k < w.heap.size → F' k → F k) : AheadAt W w' p n F' s' told j vs Aa ca ga :=
  ⟨hd, h.ow.fr hf (fun b hb => (h.off b hb).1), fun b hb => ⟨fun e => (h.off b hb).1 (hF b (h.ow.lt b hb) e), (h.off b hb).2⟩, fun k v hv => by obtain ⟨b, o, h1, h2, h3, h4⟩ := h.it k v hv; exact ⟨b, o, h1, h2.out hf hF, h3, h4⟩⟩
theorem AheadAt.grow {W w w' : World} {p n j ca : Nat} {F : Nat → Prop} {s : DS} {told : Nat → List Nat} {vs : List Value} {Aa : Option Addr} {ga : Option Nat} (h : AheadAt W w p n F s told j vs Aa ca ga) {br o : Nat} (hK : Kp w F br o 64 (told j)) (hnW : W.heap.size ≤ br) (hga : ga ≠ some br)
    {A6 : Option Addr} {c6 : Nat} {g6 : Option Nat} (hO : Ow w' 34 1 A6 (j + 1) c6 (vs ++ [.slice (some ⟨br, o, none⟩) 64 64]) g6) (hf : Fr (fun x => some x = ga) w w') (hg : g6 = ga ∨ ∃ b, g6 = some b ∧ w.heap.size ≤ b) : AheadAt W w' p n F s told (j + 1) (vs ++ [.slice (some ⟨br, o, none⟩) 64 64]) A6 c6 g6 := by
  have hvl : vs.length = j := by have := h.ow.1; simpa using this
  have hkeep : ∀ {b o n : Nat} {xs : List Nat}, Kp w F b o n xs → ga ≠ some b → Kp w' F b o n xs ∧ g6 ≠ some b := fun {b o n xs} h1 h2 => by
    refine ⟨⟨h1.it.fr hf (fun e => h2 e.symm), h1.off⟩, ?_⟩
    rcases hg with rfl | ⟨b2, rfl, hb⟩
    · exact h2
    · intro e; cases e; have := h1.it.lt; omega
  refine ⟨h.dn.turn hf (fun k hk => (h.off k hk.symm).1) (fun k hk => (h.off k hk.symm).2), hO, ?_, ?_⟩
  · intro b hb
    rcases hg with rfl | ⟨b2, rfl, hb2⟩
    · exact h.off b hb
    · cases hb
      exact ⟨fun e => by have := h.dn.di.lt e; omega, Nat.le_trans h.dn.fr.size hb2⟩
  · intro k v hv
    by_cases hk : k < vs.length
    · rw [List.getElem?_append_left hk] at hv
      obtain ⟨b, o, h1, h2, h3, h4⟩ := h.it k v hv
      obtain ⟨h5, h6⟩ := hkeep h2 h3
      exact ⟨b, o, h1, h5, h6, h4⟩
    · have hv2 := hv
      rw [List.getElem?_append_right (by omega)] at hv2
      obtain rfl : k = j := by have := (List.getElem?_eq_some_iff.1 hv2).1; simp at this; omega
      rw [hvl, Nat.sub_self] at hv2
      cases hv2
      obtain ⟨h5, h6⟩ := hkeep hK hga
      exact ⟨br, o, rfl, h5, h6, hnW⟩
set_option maxHeartbeats 16000000 in
set_option maxRecDepth 100000 in
theorem safe_walk (W : World) (xs : List Nat) (A : Option Addr) (ll lc : Nat) (hll : ll = xs.length) (hl63 : ll ≤ 140737488351232) (hcap : ll ≤ lc) (hc63 : lc ≤ 9223372036854775807) (hA : Sl W 1 A ll (xs.map bn))
    (SA : Option Addr) (sl sc : Nat) (O : Nat → OpD) (hsl : sl ≤ 1600000000000) (hS : ScriptIs W SA sl O) (KA : Option Addr) (kn kc : Nat) (kk : List Bool) (hkn : kn = kk.length) (hK : Sl W 1 KA kn (kk.map .bool)) (tn ct : Int) :
    Calls Try.prog 7 #[.slice A ll lc, .slice SA sl sc, .slice KA kn kc, .int .i64 tn, .int .i64 ct] W fun e w' => e = .returned (.bool true) ∧ Fr (fun _ => False) W w' := by
  obtain ⟨m, hm⟩ : ∃ m, Nat.min ll 4096 = m := ⟨_, rfl⟩
  have hm1 : m ≤ ll := by rw [← hm]; exact Nat.min_le_left ..
  have hm2 : m ≤ 4096 := by rw [← hm]; exact Nat.min_le_right ..
  obtain ⟨ys, hys⟩ : ∃ ys, xs.take m = ys := ⟨_, rfl⟩
  have hyl : m = ys.length := by rw [← hys, List.length_take]; omega
  have hY : Sl W 1 A m (ys.map bn) := by
    refine ⟨by simp [hyl], fun h0 => ?_⟩
    obtain ⟨b, o, e, c⟩ := hA.2 (by omega)
    refine ⟨b, o, e, fun j u hu => c j u ?_⟩
    rw [← hys, List.map_take] at hu
    have hj : j < m := by have := (List.getElem?_eq_some_iff.1 hu).1; rw [List.length_take] at this; omega
    rwa [List.getElem?_take_of_lt hj] at hu
  have Hm := hide hm
  have HA := hide hY
  have HS := hide hS
  have HK := hide hK
  have Hkn := hide hkn
  have Hyl := hide hyl
  clear hm hys hyl hA hY hll hS hK hkn
  go_enter Try.func7, Try.ntmps7
  go_wp2_with fail
  refine (awake_any W).mono ?_
  rintro e w1 ⟨rfl, hf1⟩
  have H1 := hide hf1
  clear hf1
  go_upto_if 37 with fail
  go_cut [0] (fun s0 wx => s0 = .slice A m lc ∧ wx = w1)
  case first =>
    by_cases h4 : 4096 < ll
    · obtain rfl : m = 4096 := by have := Hm.out; rw [← this]; exact Nat.min_eq_right (by omega)
      have i1 : (4096 : Int) ≤ (lc : Int) := by omega
      have i2 : (4096 : Int) < (ll : Int) := by omega
      go_wp2_with fail
      go_meet
      case rel => exact ⟨rfl, rfl⟩
    · obtain rfl : m = ll := by have := Hm.out; rw [← this]; exact Nat.min_eq_left (by omega)
      have i2 : ¬ (4096 : Int) < (m : Int) := by omega
      go_wp2_with fail
      go_meet
      case rel => exact ⟨rfl, rfl⟩
  case rest =>
    obtain ⟨rfl, hwc⟩ := hcut
    obtain rfl := hwc.symm
    have hml : m ≤ lc := by omega
    clear Hm hm1 hcap
    have HLs := hide (HA.out.below H1.out (fun _ _ => id))
    go_wp2_with fail
    by_cases hbad : loadBad m
    · refine (load_bad w1 A m lc (by omega) hbad).mono ?_
      rintro e w' ⟨rfl, rfl⟩
      have hb : (((m : Int) == 0) || ((m : Int) % 64 != 0)) = true := by
        rcases Decidable.em (m = 0) with h | h
        · subst h; rfl
        · have : ¬ (m : Int) % 64 = 0 := by unfold loadBad at hbad; omega
          simp [this]
      have Hb := hide hb
      clear hb
      go_wp2_with fail
      refine (num_any _ _).mono ?_
      rintro e w' ⟨rfl, rfl⟩
      go_wp2_with fail
      all_goals have hb := Hb.out
      all_goals (go_ret; first | exact ⟨rfl, H1.out⟩ | exact ⟨congrArg (fun b => Ending.returned (.bool b)) hb, H1.out⟩)
    obtain ⟨n, hn1, hn2, hmn⟩ : ∃ n, 1 ≤ n ∧ n ≤ 64 ∧ m = n * 64 := by
      unfold loadBad at hbad
      exact ⟨m / 64, by omega, by omega, by omega⟩
    have hm0 : 1 ≤ m := by omega
    have Hmn := hide hmn
    have hbase := (load_ok w1 A lc n ys (by omega) (by rw [← Hyl.out]; exact hmn) hn1 (by omega) (by rw [← hmn]; exact HLs.out))
    rw [← hmn] at hbase
    clear hbad hmn
    refine hbase.mono ?_
    clear hbase HLs
    intro e w3 hN
    obtain ⟨p, F, rfl, hDN⟩ := DN.of hN
    have HI : Hid (SafeIn W w3 p n 0 F (loadS ys)) := ⟨hDN.base H1.out, Nat.le_refl _⟩
    clear hN hDN H1
    go_wp2_with fail
    refine (num_any _ _).mono ?_
    rintro e w' ⟨rfl, rfl⟩
    go_wp2_with fail
    go_loopw [13] (fun v wr => ∃ (i : Nat) (s : DS) (F : Nat → Prop), i ≤ sl ∧ v = .int .i64 i ∧ Hid (SafeIn W wr p n i F s)) (fun v _ => sl - (intOf v).toNat)
    case atStart => exact ⟨0, _, _, Nat.zero_le _, rfl, HI⟩
    case round =>
      clear HI
      obtain ⟨w2, rfl⟩ : ∃ w2, w2 = wr := ⟨_, rfl⟩
      obtain ⟨i, s, F, hi, rfl, HI⟩ := hrel
      by_cases hlt : i < sl
      · obtain ⟨bk, o, rfl, hbB, hc0⟩ := HS.out.at_ (by omega)
        have hO := HS.out.is i hlt
        obtain ⟨op, hop⟩ : ∃ op, O i = op := ⟨_, rfl⟩
        have hc : ∀ j u, op.cells[j]? = some u → w2.cell? ⟨bk, o + i * 7 + j, none⟩ = some u := fun j u hu => (HI.out.dn.fr.cell (p := ⟨bk, o + i * 7 + j, none⟩) hbB id).trans (hc0 i j hlt u (by rw [hop]; exact hu))
        rw [hop] at hO
        obtain ⟨who, kd, nn, DA, dn, dc, dd, OKA, okn, okc, okk, otn, oct⟩ := op
        have d0 := hc 0 _ rfl
        have d1 := hc 1 _ rfl
        have d2 := hc 2 _ rfl
        have d3 := hc 3 _ rfl
        have d4 := hc 4 _ rfl
        have d5 := hc 5 _ rfl
        have d6 := hc 6 _ rfl
        rw [Nat.add_zero] at d0
        simp only at d0 d1 d2 d3 d4 d5 d6
        have hn1' : -9223372036854775808 ≤ nn := hO.n1
        have hn2' : nn ≤ 9223372036854775807 := hO.n2
        have HO := hide hO
        have HW := hide (HI.out.small (by omega))
        clear hc hc0 hop hO hbB
        go_wp2_with fail
        obtain ⟨wo, Hwo⟩ : ∃ wo, Hid (wo = w2.alloc (.cells #[.int .i64 who, .int .i64 kd, .int .i64 nn, .slice DA dn dc, .slice OKA okn okc, .int .i64 otn, .int .i64 oct] 61)) := ⟨_, rfl⟩
        obtain ⟨ob, hob⟩ : ∃ ob, w2.heap.size = ob := ⟨_, rfl⟩
        have HB0 : Hid (Bl wo ob 61 #[.int .i64 who, .int .i64 kd, .int .i64 nn, .slice DA dn dc, .slice OKA okn okc, .int .i64 otn, .int .i64 oct]) := by rw [Hwo.out, ← hob]; exact Bl.new _ _ _
        have HI0 : Hid (SafeIn W wo p n i F s) := by rw [Hwo.out]; exact HI.out.step ((Fr.refl _ _).alloc _)
        have hoF : ¬ F ob := fun h => by have := HI.out.dn.di.lt h; omega
        have HoF := hide hoF
        rw [← Hwo.out, hob]
        clear Hwo hob hoF HI d0 d1 d2 d3 d4 d5 d6
        refine (image_is HI0.out.dn m (by rw [HI0.out.dn.di.ok.len, Hmn.out])).mono ?_
        rintro e w3 ⟨Aw, gw, rfl, hDN, hO, hg, hfr⟩
        obtain ⟨bw, ow, rfl, hK, hnew, -⟩ := Kp.made HI0.out.dn.di hO hg (by omega)
        have HI3 := hide (HI0.out.step hfr)
        have Kw := hide hK
        have HB3 := hide (HB0.out.fr hfr id)
        have lob : ob < bw := Nat.lt_of_lt_of_le HB0.out.lt hnew
        clear hDN hO hg hfr hK hnew HI0 HB0
        go_wp2_with fail
        refine (waiting_any HI3.out.dn.di).mono ?_
        rintro e w' ⟨rfl, rfl⟩
        go_wp2_with fail
        refine (acts_any HI3.out.dn.di).mono ?_
        rintro e w4 ⟨rfl, hfr⟩
        have HI4 := hide (HI3.out.step hfr)
        have Kw4 := hide (Kw.out.step hfr)
        have HB4 := hide (HB3.out.fr hfr id)
        clear hfr HI3 Kw HB3
        go_wp2_with fail
        refine (power_any HI4.out.dn.di).mono ?_
        rintro e w' ⟨rfl, rfl⟩
        have c1 : w4.cell? ⟨ob, 1, none⟩ = some (.int .i64 kd) := HB4.out.cell' rfl
        have c2 : w4.cell? ⟨ob, 2, none⟩ = some (.int .i64 nn) := HB4.out.cell' rfl
        have c3 : w4.cell? ⟨ob, 3, none⟩ = some (.slice DA dn dc) := HB4.out.cell' rfl
        obtain ⟨on, hon⟩ : ∃ on : Bool, decide (s.fuse ≠ 0) = on := ⟨_, rfl⟩
        rw [hon]
        have Hon := hide hon
        clear hon
        go_upto_block 2 with fail
        go_cut [19, 20] (fun vo vs wx => ∃ (b bo : Bool) (F' : Nat → Prop) (s' : DS), vo = .bool bo ∧ vs = .bool b ∧ Hid (StepOut W wx p n i m bw ow s b bo F' s'))
        case first =>
          by_cases k1 : kd = 1
          · subst k1
            go_wp2_with fail
            obtain ⟨er, her⟩ : ∃ er, writeN n s nn dn = er := ⟨_, rfl⟩
            refine (write_arg HI4.out.dn.di nn DA dn dc dd HO.out.d1 (HO.out.d4.below HI4.out.dn.fr (fun _ _ => id)) HW.out.1 HW.out.2.1 (HI4.out.dn.apart HO.out.d4)).mono ?_
            rintro e w5 ⟨rfl, hd⟩
            rw [her]
            have Hd := hide hd
            have Her := hide her
            clear hd her
            by_cases he : er = 0
            · subst he
              go_wp2_with fail
              refine (num_any _ _).mono ?_
              rintro e w' ⟨rfl, rfl⟩
              go_wp2_with fail
              go_meet
              have hw : s.writeS n nn dd = s.write nn.toNat dd := by have := Her.out; have h1 : dn = dd.length := HO.out.d1; rw [h1] at this; unfold DS.writeS; rw [if_pos this]
              have hd := Hd.out
              rw [hw] at hd
              obtain ⟨F', h⟩ := StepOut.turn (b := false) (bo := on) HI4.out Kw4.out hd (by have := HI4.out.ct; show s.wr + 1 + s.sy ≤ _; omega) (fun h => by cases h) (fun _ => by show s.wr + 1 + s.sy = _; omega)
              exact ⟨false, on, _, _, rfl, rfl, h⟩
            · have hb : (er != 0) = true := by simpa using he
              go_wp2_with fail
              refine (num_any _ _).mono ?_
              rintro e w' ⟨rfl, rfl⟩
              go_wp2_with fail
              go_meet
              have hw : s.writeS n nn dd = s := by have := Her.out; have h1 : dn = dd.length := HO.out.d1; rw [h1] at this; unfold DS.writeS; rw [if_neg (by omega)]
              have hd := Hd.out
              rw [hw] at hd
              obtain ⟨F', h⟩ := StepOut.turn (b := true) (bo := on) HI4.out Kw4.out hd (by have := HI4.out.ct; omega) (fun _ => ⟨Hon.out.symm, rfl, rfl, rfl, rfl⟩) (fun h => by cases h)
              exact ⟨true, on, _, _, rfl, rfl, h⟩
          · by_cases k3 : kd = 3
            · subst k3
              go_wp2_with fail
              obtain ⟨er, her⟩ : ∃ er, syncN s = er := ⟨_, rfl⟩
              refine (sync_any HI4.out.dn.di HW.out.2.2).mono ?_
              rintro e w5 ⟨rfl, hd⟩
              rw [her]
              have Hd := hide hd
              have Her := hide her
              clear hd her
              by_cases he : er = 0
              · subst he
                go_wp2_with fail
                refine (num_any _ _).mono ?_
                rintro e w' ⟨rfl, rfl⟩
                go_wp2_with fail
                go_meet
                have hw : s.syncS = s.sync := by have := Her.out; unfold DS.syncS; rw [if_pos this]
                have hd := Hd.out
                rw [hw] at hd
                obtain ⟨F', h⟩ := StepOut.turn (b := false) (bo := on) HI4.out Kw4.out hd (by have := HI4.out.ct; show s.wr + (s.sy + 1) ≤ _; omega) (fun h => by cases h) (fun _ => by show s.wr + (s.sy + 1) = _; omega)
                exact ⟨false, on, _, _, rfl, rfl, h⟩
              · have hb : (er != 0) = true := by simpa using he
                go_wp2_with fail
                refine (num_any _ _).mono ?_
                rintro e w' ⟨rfl, rfl⟩
                go_wp2_with fail
                go_meet
                have hw : s.syncS = s := by have := Her.out; unfold DS.syncS; rw [if_neg (by omega)]
                have hd := Hd.out
                rw [hw] at hd
                obtain ⟨F', h⟩ := StepOut.turn (b := true) (bo := on) HI4.out Kw4.out hd (by have := HI4.out.ct; omega) (fun _ => ⟨Hon.out.symm, rfl, rfl, rfl, rfl⟩) (fun h => by cases h)
                exact ⟨true, on, _, _, rfl, rfl, h⟩
            · by_cases k5 : kd = 5
              · subst k5
                go_wp2_with fail
                refine (fuse_any nn hn2' HI4.out.dn.di).mono ?_
                rintro e w5 ⟨rfl, hd⟩
                have c2' : w5.cell? ⟨ob, 2, none⟩ = some (.int .i64 nn) := by obtain ⟨F', h1, h2, h3⟩ := hd; exact (HB4.out.fr h2 HoF.out).cell' rfl
                have Hd := hide hd
                clear hd c1 c2 c3
                by_cases hn0 : nn = 0
                · subst hn0
                  go_wp2_with fail
                  go_meet
                  obtain ⟨F', h⟩ := StepOut.turn (b := true) (bo := false) HI4.out Kw4.out Hd.out (by have := HI4.out.ct; show s.wr + s.sy ≤ _; omega) (fun _ => ⟨by simp, rfl, rfl, rfl, rfl⟩) (fun h => by cases h)
                  exact ⟨true, false, _, _, rfl, rfl, h⟩
                · have hb : (nn != 0) = true := by simpa using hn0
                  go_wp2_with fail
                  go_meet
                  obtain ⟨F', h⟩ := StepOut.turn (b := true) (bo := true) HI4.out Kw4.out Hd.out (by have := HI4.out.ct; show s.wr + s.sy ≤ _; omega) (fun _ => ⟨by symm; apply decide_eq_true; show ¬ (if nn < 0 then -1 else nn) = 0; split <;> omega, rfl, rfl, rfl, rfl⟩) (fun h => by cases h)
                  exact ⟨true, true, _, _, rfl, rfl, h⟩
              · by_cases k2 : kd = 2
                · subst k2
                  go_wp2_with fail
                  refine (read_any HI4.out.dn.di nn).mono ?_
                  rintro e w5 ⟨⟨RA, rg, re, rfl, -, -⟩, hfr⟩
                  have Hfr := hide hfr
                  clear hfr
                  go_wp2_with fail
                  go_meet
                  have := StepOut.stay HI4.out Kw4.out Hfr.out
                  rw [Hon.out] at this
                  exact ⟨true, on, _, _, rfl, rfl, this⟩
                · have b1 : (kd == 1) = false := by simpa using k1
                  go_wp2_with fail
                  go_meet
                  have := StepOut.stay HI4.out Kw4.out (Fr.refl _ _)
                  rw [Hon.out] at this
                  exact ⟨true, on, _, _, rfl, rfl, this⟩
        case rest =>
          obtain ⟨b, bo, F', s', rfl, rfl, hSO⟩ := hcut
          have HSO := hide hSO.out
          clear c1 c2 c3 HI4 Kw4 HB4 HoF Hon
          clear HO HW
          cases b with
          | true =>
            obtain ⟨hon, hsf, hrow, hwr, hsy⟩ := HSO.out.same rfl
            have Hsf := hide hsf
            have Hrow := hide hrow
            have Hon := hide hon
            have Hwr := hide hwr
            have Hsy := hide hsy
            clear hsf hrow hwr hsy hon
            go_wp2_with fail
            refine (acts_any HSO.out.hI.dn.di).mono ?_
            rintro e w5 ⟨rfl, hfr⟩
            rw [Hwr.out, Hsy.out]
            have HI5 := hide (HSO.out.hI.step hfr)
            have Kw5 := hide (HSO.out.kp.step hfr)
            clear hfr HSO Hwr Hsy
            go_wp2_with fail
            refine (image_is HI5.out.dn m (by rw [HI5.out.dn.di.ok.len, Hmn.out])).mono ?_
            rintro e w6 ⟨Az, gz, rfl, hDN, hO, hg, hfr⟩
            rw [Hsf.out] at hO
            have HO6 := hide hO
            have HI6 := hide (HI5.out.step hfr)
            have Kw6 := hide (Kw5.out.step hfr)
            clear hDN hO hg hfr HI5 Kw5
            go_wp2_with fail
            refine (same_q w6 s.sf _ _ _ _ m (Kw6.out.it.len.symm) (by omega) HO6.out.sl Kw6.out.sl).mono ?_
            rintro e w7 ⟨rfl, hd⟩
            have HI7 := hide (HI6.out.step (fr_of_drewN hd))
            clear hd HO6 HI6 Kw6
            go_wp2_with fail
            refine (waiting_any HI7.out.dn.di).mono ?_
            rintro e w' ⟨rfl, rfl⟩
            rw [Hrow.out]
            go_wp2_with fail
            refine (power_any HI7.out.dn.di).mono ?_
            rintro e w' ⟨rfl, rfl⟩
            rw [← Hon.out]
            go_wp2_with fail
            exact ⟨⟨i + 1, s', F', by omega, by go_num, HI7.out⟩, by simp [intOf]; omega⟩
          | false =>
            have hm1 := HSO.out.more rfl
            have hct := HSO.out.hI.ct
            obtain ⟨t, ht⟩ : ∃ t, s'.wr + s'.sy = t := ⟨_, rfl⟩
            obtain ⟨t0, ht0⟩ : ∃ t0, s.wr + s.sy = t0 := ⟨_, rfl⟩
            have q1 : IntKind.i64.wrap ((s'.wr : Int) + (s'.sy : Int)) = (t : Int) := by rw [IntWalk.i64_in _ (by omega)]; omega
            have q2 : IntKind.i64.wrap ((s.wr : Int) + (s.sy : Int)) = (t0 : Int) := by rw [IntWalk.i64_in _ (by omega)]; omega
            have q3 : IntKind.i64.wrap ((t0 : Int) + 1) = (t : Int) := by rw [IntWalk.i64_in _ (by omega)]; omega
            clear hm1 hct ht ht0
            go_wp2_with fail
            refine (acts_any HSO.out.hI.dn.di).mono ?_
            rintro e w5 ⟨rfl, hfr⟩
            have HI5 := hide (HSO.out.hI.step hfr)
            clear hfr HSO
            go_wp2_with fail
            exact ⟨⟨i + 1, s', F', by omega, by go_num, HI5.out⟩, by simp [intOf]; omega⟩
      · obtain rfl : sl = i := by omega
        clear hlt hi
        go_wp2_with fail
        refine (fuse_is (s' := { s with fuse := -1 }) HI.out.dn (-1) (by omega) rfl).mono ?_
        rintro e w3 ⟨rfl, F2, hDN, -, -⟩
        have hsy : s.sy < 8000000000000000000 := (HI.out.small (by omega)).2.2
        obtain ⟨sF, hsF⟩ : ∃ sF : DS, ({ s with fuse := -1 } : DS) = sF := ⟨_, rfl⟩
        rw [hsF] at hDN
        have hfF : sF.fuse ≠ 0 := by rw [← hsF]; show (-1 : Int) ≠ 0; omega
        have hfG : spend sF.fuse ≠ 0 := by rw [← hsF]; show spend (-1) ≠ 0; decide
        have HfG := hide hfG
        have hyF : sF.sy < 8000000000000000000 := by rw [← hsF]; exact hsy
        have HA0 : Hid (AheadAt W w3 p n F2 sF sF.told 0 [] none 0 none) := ⟨hDN, Ow.nil_ _ _ _, fun b h => (by cases h), fun k v h => (by simp at h)⟩
        have HfF := hide hfF
        have HyF := hide hyF
        clear hDN hsy hfF hyF hfG hsF HI
        obtain ⟨j0, jj, jj0, jj1, jj2⟩ := info_parts infoRow
        go_wp2_with fail
        go_loopw [25, 26] (fun va v wr => ∃ (j : Nat) (vs : List Value) (Aa : Option Addr) (ca : Nat) (ga : Option Nat), j ≤ n ∧ va = .slice Aa j ca ∧ v = .int .i64 j ∧ Hid (AheadAt W wr p n F2 sF sF.told j vs Aa ca ga)) (fun _ v _ => n - (intOf v).toNat)
        case atStart => exact ⟨0, _, _, _, _, Nat.zero_le _, rfl, rfl, HA0⟩
        case round =>
          clear HA0
          obtain ⟨w4, rfl⟩ : ∃ w4, w4 = wr := ⟨_, rfl⟩
          obtain ⟨j, vs, Aa, ca, ga, hj, rfl, rfl, HAh⟩ := hrel
          go_wp2_with fail
          refine (sectors_any HAh.out.dn.di).mono ?_
          rintro e w' ⟨rfl, rfl⟩
          by_cases hlt : j < n
          · have hrd := readS_at (n := n) HfF.out hlt
            have hln := told_len HAh.out.dn.di.ok hlt
            go_wp2_with fail
            refine (read_is HAh.out.dn (j : Int) 64 hrd.2 hrd.1 hln).mono ?_
            rintro e w5 ⟨Ar, gr, er, rfl, hDN, hO, hg, hfr⟩
            obtain ⟨br, or_, rfl, hK, hnew, -⟩ := Kp.made HAh.out.dn.di hO hg (by omega)
            have hnW : W.heap.size ≤ br := Nat.le_trans HAh.out.dn.fr.size hnew
            have hga : ga ≠ some br := fun e => by have := HAh.out.ow.lt br e; omega
            have HA5 := hide (HAh.out.step hfr)
            have HK5 := hide hK
            have hO5 := HA5.out.ow
            clear hDN hO hg hfr hK hnew hrd hln
            clear hO5
            go_wp2_with fail
            refine (num_any _ _).mono ?_
            rintro e w' ⟨rfl, rfl⟩
            have hO5 := HA5.out.ow
            go_wp2_with (at_builtin; refine wpList_append_ow _ rfl _ _ 22 rfl 34 j0 (.slice none 0 0) 1 24 Try.underlying22 jj jj0 jj1 jj2 rfl (by decide) _ _ _ _ _ rfl (hO5.fr ((Fr.refl _ _).alloc _) (fun _ _ => id)) _ _ _ _ rfl (Sl.one _ _ _) (by intro u hu; rw [List.mem_singleton] at hu; subst hu; rfl) (by unfold maxLen; omega) (by omega) ?_)
            intro A6 c6 w6 g6 hO6 hf6 hg6
            have hf7 : Fr (fun x => some x = ga) w5 w6 := ((Fr.refl _ _).alloc _).trans hf6
            have hg7 : g6 = ga ∨ ∃ b, g6 = some b ∧ w5.heap.size ≤ b := hg6.imp id fun ⟨b, e, h⟩ => ⟨b, e, by first | omega | (simp at h; omega)⟩
            have HA6 := hide (HA5.out.grow HK5.out hnW hga hO6 hf7 hg7)
            clear hO6 hf6 hg6 hf7 hg7 hO5 HA5 HK5 hga hnW HAh
            go_wp2_with fail
            exact ⟨⟨j + 1, _, _, _, _, by omega, rfl, by go_num, HA6.out⟩, by simp [intOf]; omega⟩
          · obtain rfl : n = j := by omega
            clear hlt hj
            go_wp2_with fail
            obtain ⟨s2, hs2⟩ : ∃ s2, sF.syncS = s2 := ⟨_, rfl⟩
            have hsn : syncN sF = 0 := by unfold syncN; rw [if_neg HfF.out]
            have hss : sF.syncS = sF.sync := by unfold DS.syncS; rw [if_pos hsn]
            have hok := HAh.out.dn.di.ok
            have hi2 : s2.sf = laidAll sF.sf sF.row := by rw [← hs2, hss]; rfl
            have hr2 : s2.row = [] := by rw [← hs2, hss]; rfl
            have hl2 : s2.sf.length = m := by rw [hi2, laidAll_len sF.row sF.sf hok.len hok.row, Hmn.out]
            have htl : ∀ k, k < n → sec s2.sf k = sF.told k := fun k hk => by rw [hi2]; exact told_laid hok hk
            refine (sync_is (er := 0) (s' := s2) HAh.out.dn hsn hs2 HyF.out).mono ?_
            rintro e w5 ⟨rfl, F3, hDN, hfr, hFF⟩
            have HA5 := hide (HAh.out.out hDN hfr hFF)
            have Hr2 := hide hr2
            have Hl2 := hide hl2
            have Htl := hide htl
            have hro : ∀ k, k < n → readN n s2 (k : Int) = 0 ∧ s2.readS n (k : Int) = sF.told k := fun k hk => by
              have hf : s2.fuse ≠ 0 := by rw [← hs2, hss]; exact HfG.out
              have h1 := readS_at (n := n) hf hk
              refine ⟨h1.1, ?_⟩
              rw [h1.2, told_sf k hr2]; exact htl k hk
            have Hro := hide hro
            clear hDN hfr hFF hr2 hl2 htl hro hs2 hss hsn hok hi2 HAh HyF
            go_wp2_with fail
            refine (num_any _ _).mono ?_
            rintro e w' ⟨rfl, rfl⟩
            go_wp2_with fail
            refine (waiting_any HA5.out.dn.di).mono ?_
            rintro e w' ⟨rfl, rfl⟩
            rw [Hr2.out]
            have q1 : IntKind.i64.wrap ((n : Int) * 64) = (m : Int) := by have := Hmn.out; rw [IntWalk.i64_in _ (by omega)]; omega
            go_wp2_with fail
            refine (image_is HA5.out.dn m Hl2.out).mono ?_
            rintro e w6 ⟨Ai, gi, rfl, hDN, hO, hg, hfr⟩
            obtain ⟨bi, oi, rfl, hK, hnew, -⟩ := Kp.made HA5.out.dn.di hO hg (by omega)
            have HA6 := hide (HA5.out.step hfr)
            have HK6 := hide hK
            clear hDN hO hg hfr hK hnew HA5 q1
            go_wp2_with fail
            go_loopw [30] (fun v wr => ∃ (j : Nat), j ≤ n ∧ v = .int .i64 j ∧ Hid (Fr (fun _ => False) w6 wr)) (fun v _ => n - (intOf v).toNat)
            case atStart => exact ⟨0, Nat.zero_le _, rfl, Fr.refl _ _⟩
            case round =>
              obtain ⟨x0, rfl⟩ : ∃ x0, x0 = wr := ⟨_, rfl⟩
              obtain ⟨j, hj, rfl, hF0⟩ := hrel
              by_cases hlt : j < n
              · have hrd := Hro.out j hlt
                have HA7 := hide (HA6.out.step hF0.out)
                have HK7 := hide (HK6.out.step hF0.out)
                have hln : (sF.told j).length = 64 := by rw [← Htl.out j hlt]; exact sec_len (by rw [Hl2.out, Hmn.out]) hlt
                have hvl : vs.length = n := by have := HA7.out.ow.1; simpa using this
                obtain ⟨v, hv⟩ : ∃ v, vs[j]? = some v := ⟨_, List.getElem?_eq_getElem (by omega)⟩
                obtain ⟨ba, oa, rfl, hKa, -, -⟩ := HA7.out.it j v hv
                obtain ⟨bv, ov, rfl, -, cv, -⟩ := HA7.out.ow.look hv
                have Hka := hide hKa
                have HP := hide (Sl.part HK7.out.sl Hmn.out j hlt)
                rw [Htl.out j hlt] at HP
                obtain ⟨t, ht⟩ : ∃ t, j * 64 = t := ⟨_, rfl⟩
                obtain ⟨u, hu⟩ : ∃ u, j * 64 + 64 = u := ⟨_, rfl⟩
                rw [ht] at HP
                have q1 : IntKind.i64.wrap (64 * (j : Int)) = (t : Int) := by rw [IntWalk.i64_in _ (by omega)]; omega
                have q2 : IntKind.i64.wrap ((t : Int) + 64) = (u : Int) := by rw [IntWalk.i64_in _ (by omega)]; omega
                have j1 : (0 : Int) ≤ (t : Int) := by omega
                have j2 : (t : Int) ≤ (u : Int) := by omega
                have j3 : (u : Int) ≤ (m : Int) := by have := Hmn.out; omega
                have j4 : u - t = 64 := by omega
                have i0 : (0 : Int) ≤ (j : Int) := by omega
                have i1 : (j : Int) < (n : Int) := by omega
                clear ht hu hvl hv hKa HK7
                go_wp2_with fail
                refine (read_is HA7.out.dn (j : Int) 64 hrd.2 hrd.1 hln).mono ?_
                rintro e x1 ⟨Ar, gr, er, rfl, hDN, hO, hg, hfr⟩
                have HO := hide hO
                have Hfr := hide hfr
                have HP1 := hide (HP.out.below hfr (fun _ _ => id))
                have Hka1 := hide (Hka.out.step hfr)
                have cv1 : x1.cell? ⟨bv, ov + j, none⟩ = some (.slice (some ⟨ba, oa, none⟩) 64 64) := (hfr.cell (World.block_lt_of_cell? x0 _ cv) id).trans cv
                have Hln := hide hln
                clear hDN hO hg hfr HP Hka cv hrd hln HA7
                go_wp2_with fail
                refine (num_any _ _).mono ?_
                rintro e w' ⟨rfl, rfl⟩
                go_wp2_with fail
                refine (same_q x1 (sF.told j) _ _ _ _ 64 Hln.out.symm (by omega) HO.out.sl HP1.out).mono ?_
                rintro e x2 ⟨rfl, hd⟩
                have hfd := fr_of_drewN hd
                have HO2 := hide (HO.out.fr hfd (fun _ _ => id))
                have Hka2 := hide (Hka1.out.step hfd)
                have Hf2 := hide ((hF0.out.trans Hfr.out).trans hfd)
                have cv2 : x2.cell? ⟨bv, ov + j, none⟩ = some (.slice (some ⟨ba, oa, none⟩) 64 64) := (hfd.cell (World.block_lt_of_cell? x1 _ cv1) id).trans cv1
                clear hd hfd HO Hka1 cv1 HP1 Hfr hF0
                go_wp2_with fail
                refine (same_q x2 (sF.told j) _ _ _ _ 64 Hln.out.symm (by omega) HO2.out.sl Hka2.out.sl).mono ?_
                rintro e x3 ⟨rfl, hd⟩
                have Hf3 := hide (Hf2.out.trans (fr_of_drewN hd))
                clear hd HO2 Hka2 cv2 Hf2
                go_wp2_with fail
                exact ⟨⟨j + 1, by omega, by go_num, Hf3.out⟩, by simp [intOf]; omega⟩
              · obtain rfl : n = j := by omega
                have HD7 := hide (HA6.out.dn.step hF0.out)
                have HK7 := hide (HK6.out.step hF0.out)
                clear hlt hj hF0 HA6 HK6
                go_wp2_with fail
                refine (crash_arg HD7.out.di KA kn kc kk Hkn.out (HK.out.below HD7.out.fr (fun _ _ => id)) tn ct (HD7.out.apart HK.out)).mono ?_
                rintro e x1 ⟨rfl, hd⟩
                obtain ⟨F4, hDN, hfr, hFF⟩ := HD7.out.out hd
                have hs4 : (s2.crash kk tn ct).sf = s2.sf := by show crashTo kk tn ct s2.sf s2.row s2.row.length = s2.sf; rw [Hr2.out]; rfl
                have HD8 := hide hDN
                have HK8 := hide (HK7.out.out hfr hFF)
                have Hs4 := hide hs4
                clear hDN hfr hFF hd hs4 HD7 HK7
                go_wp2_with fail
                refine (image_is HD8.out m (by rw [Hs4.out, Hl2.out])).mono ?_
                rintro e x2 ⟨Az, gz, rfl, hDN, hO, hg, hfr⟩
                rw [Hs4.out] at hO
                have HO := hide hO
                have HK9 := hide (HK8.out.step hfr)
                have HD9 := hide (HD8.out.step hfr)
                clear hDN hO hg hfr HD8 HK8
                go_wp2_with fail
                refine (same_q x2 s2.sf _ _ _ _ m Hl2.out.symm (by omega) HO.out.sl HK9.out.sl).mono ?_
                rintro e x3 ⟨rfl, hd⟩
                have HE := hide (HD9.out.fr.trans (fr_of_drewN hd))
                clear hd HO HK9 HD9
                go_wp2_with fail
                go_ret
                exact ⟨rfl, HE.out⟩
#print axioms safe_walk
end Go.Proofs.Ythcklgelbckffaa
