/-
  RingOwn: the walk.
-/
import Derived.Test.YteleakbbppbnnaaRo3
import Derived.Deep.CutBlock
namespace Go.Proofs.Yteleakbbppbnnaa
open Go.RowKit
set_option linter.unusedVariables false
attribute [local go_sem ↓] Go.wp_at_zero Go.wp_at_succ

theorem push_either {p : Nat} {g : Option Nat} {room : Nat} {xs : List Int} (w : World) (h : RI w p g room xs) (A : Option Addr) (m c : Nat) (l : List Int) (hl : Sl w 1 A m (l.map iv))
    (hap : 0 < m → ∀ b, (∃ o, A = some ⟨b, o, none⟩) → b < w.heap.size → ¬ foot p g b) :
    Calls Try.prog 9 #[.pointer (some ⟨p, 0, none⟩), .slice A m c] w fun e w' => ∃ (er : Nat) (X : List Int), e = .returned (.int .i64 (er : Int)) ∧ (er = 0 ∧ X = xs ++ l ∨ er = 100 ∧ X = xs) ∧ ROut w p g room X w' := by
  by_cases hf : xs.length + m ≤ room
  · exact (push_ok w h A m c l hl hap hf).mono fun e w' ⟨he, ho⟩ => ⟨0, _, he, .inl ⟨rfl, rfl⟩, ho⟩
  · exact (push_full w h A m c hf).mono fun e w' ⟨he, ho⟩ => ⟨100, _, he, .inr ⟨rfl, rfl⟩, ROut.refl h ho⟩
theorem Sl.lt {w : World} {A : Option Addr} {n : Nat} {xs : List Int} (h : Sl w 1 A n (xs.map iv)) (hn : 0 < n) : ∃ b o, A = some ⟨b, o, none⟩ ∧ b < w.heap.size := by
  have hl := h.1
  obtain ⟨u, hu⟩ : ∃ u, (xs.map iv)[0]? = some u := ⟨_, List.getElem?_eq_getElem (by rw [hl]; omega)⟩
  obtain ⟨b, o, hA, hc⟩ := h.at_ hu
  exact ⟨b, o, hA, World.block_lt_of_cell? w _ hc⟩
theorem infoInts : (Try.prog.info? 22).map (fun i => (i.zero, i.size, i.bytes)) = some (some (.slice none 0 0), 1, 24) := by kernel_rfl
set_option maxHeartbeats 8000000 in
set_option maxRecDepth 100000 in
theorem own_walk (w : World) (rp : Nat) (hr1 : 1 ≤ rp) (hr2 : rp ≤ 65536) (LA OA : Option Addr) (ln lc on oc : Nat) (lv ov : List Int) (hln : ln * 8 ≤ 140737488351232) (hL : Sl w 1 LA ln (lv.map iv)) (hO : Sl w 1 OA on (ov.map iv)) :
    Calls Try.prog 3 #[.int .i64 (rp : Int), .slice LA ln lc, .slice OA on oc] w fun e w' => e = .returned (.bool true) ∧ Below w.heap.size w w' := by
  obtain ⟨i0, hi, hz0, hz1, hz2⟩ := info_parts infoInt
  obtain ⟨j0, hj, hj0, hj1, hj2⟩ := info_parts infoInts
  have hlv : lv.length = ln := by have := hL.1; simpa using this
  go_enter Try.func3, Try.ntmps3
  go_wp2_with fail
  refine (awake_any _).mono ?_
  rintro e w1 ⟨rfl, hf1⟩
  go_wp2_with fail
  refine (new_ok _ rp hr1 hr2).mono ?_
  rintro e w2 ⟨rfl, hR2, hf2, hs2⟩
  obtain ⟨p, hp⟩ : ∃ p, w1.heap.size = p := ⟨_, rfl⟩
  rw [hp] at hR2 hs2 ⊢
  have hpw : w.heap.size ≤ p := by rw [← hp]; exact hf1.size
  have hI2 : RI w2 p none rp [] := ⟨_, _, _, rfl, rfl, hR2⟩
  clear hR2 hp
  go_wp2_with fail
  refine (new_ok _ 65536 (by omega) (by omega)).mono ?_
  rintro e w3 ⟨rfl, hR3, hf3, hs3⟩
  obtain ⟨q, hq⟩ : ∃ q, w2.heap.size = q := ⟨_, rfl⟩
  rw [hq] at hR3 hs3 ⊢
  have hpq : p < q := by rw [← hq]; exact hs2
  have hI3 : RI w3 q none 65536 [] := ⟨_, _, _, rfl, rfl, hR3⟩
  have hI3p : RI w3 p none rp [] := hI2.fr hf3 (fun _ _ => id)
  have hF3 : Fr (fun _ => False) w w3 := (hf1.trans hf2).trans hf3
  clear hR3 hq hI2 hf1 hf2 hf3 hs2
  go_wp2_with fail
  refine (lentI_any _ lv LA ln lc hln (hL.below hF3 (fun _ _ => id))).mono ?_
  rintro e w4 ⟨A, c, g, rfl, hO4, hg4, hf4⟩
  have hOg : Ow w4 3 1 A ln c (lv.map iv) (some g) := by
    have := hO4.take (k := ln) (by omega)
    rw [Nat.mul_one, List.map_append, List.take_append_of_le_length (by simp [hlv]), List.take_of_length_le (by simp [hlv])] at this
    exact this
  have hF4 : Fr (fun _ => False) w w4 := hF3.trans hf4
  have hI4p := hI3p.fr hf4 (fun _ _ => id)
  have hI4q := hI3.fr hf4 (fun _ _ => id)
  have hz3 := hf4.size
  clear hO4 hI3 hI3p hf4
  go_wp2_with fail
  refine (push_either _ hI4p A ln c lv hOg.sl (fun _ b ⟨o, e⟩ _ hb => ?_)).mono ?_
  · have h1 := hOg.at_g e
    cases h1
    rcases hb with rfl | hb
    · omega
    · cases hb
  rintro e w5 ⟨er, X, rfl, hX, gp, hI5p, hf5, hk5⟩
  have hOg5 := hOg.fr hf5 (fun b e hb => by
    cases e
    rcases hb with rfl | hb
    · omega
    · cases hb)
  have hI5q := hI4q.fr hf5 (fun b e hb => by
    rcases e with rfl | e
    · rcases hb with hb | hb
      · omega
      · cases hb
    · cases e)
  have hF5 : Fr (fun k => w.heap.size ≤ k) w w5 := (hF4.weak _).comp hf5 (fun i hi hb => by
    rcases hb with rfl | hb
    · exact hpw
    · cases hb)
  have hpg : ∀ k, foot p gp k → w.heap.size ≤ k ∧ k ≠ g ∧ ¬ foot q none k ∧ k < w5.heap.size := fun k hk => by
    have hlt := hI5p.lt hk
    have hglt := hOg.lt g rfl
    rcases hk with rfl | hk
    · refine ⟨hpw, by omega, fun h => ?_, hlt⟩
      rcases h with h | h
      · omega
      · cases h
    · rcases hk5 with rfl | ⟨b, rfl, hb⟩
      · cases hk
      · cases hk
        refine ⟨by have := hF4.size; omega, by omega, fun h => ?_, hlt⟩
        rcases h with h | h
        · omega
        · cases h
  clear hI4p hI4q hf5 hk5 hF3
  have hX2 : er = 0 ∧ X = lv ∨ er = 100 ∧ X = [] := hX
  have HX := hide hX2
  clear hX hX2 hF4
  go_wp2_with fail
  have hO5 : Sl w5 1 OA on (ov.map iv) := hO.below hF5 (fun k hk h => by omega)
  refine (push_either _ hI5q OA on oc ov hO5 (fun h b ⟨o, e⟩ _ hb => ?_)).mono ?_
  · obtain ⟨b', o', e', hlt⟩ := hO.lt h
    rw [e] at e'; cases e'
    rcases hb with rfl | hb
    · omega
    · cases hb
  rintro e w6 ⟨er2, Y, rfl, -, gq, hI6q, hf6, hk6⟩
  have hI6p := hI5p.fr hf6 (fun b hb => (hpg b hb).2.2.1)
  have hOg6 := hOg5.fr hf6 (fun b e hb => by
    cases e
    rcases hb with rfl | hb
    · omega
    · cases hb)
  have hqg : ∀ k, foot q gq k → k ≠ g := fun k hk => by
    have hglt := hOg5.lt g rfl
    rcases hk with rfl | hk
    · omega
    · rcases hk6 with rfl | ⟨b, rfl, hb⟩
      · cases hk
      · cases hk; omega
  have hF6 : Fr (fun k => w.heap.size ≤ k) w w6 := hF5.comp hf6 (fun i hi hb => by
    rcases hb with rfl | hb
    · omega
    · cases hb)
  have hgw : w.heap.size ≤ g := by omega
  have hpw2 : ∀ k, foot p gp k → w.heap.size ≤ k ∧ k ≠ g := fun k hk => ⟨(hpg k hk).1, (hpg k hk).2.1⟩
  clear hpg hI5p hI5q hf6 hk6 hO5 hOg hOg5 hF5 hg4 hz3 hs3
  have hl2 := hL.lt
  go_wp2_with fail
  go_loopw [13] (fun i wr => ∃ (k : Nat) (vs : List Int), i = .int .i64 (k : Int) ∧ k ≤ ln ∧ Ow wr 3 1 A ln c (vs.map iv) (some g) ∧ Fr (fun x => x = g) w6 wr) (fun i _ => ln - (intOf i).toNat)
  case atStart => exact ⟨0, lv, rfl, Nat.zero_le _, hOg6, Fr.refl _ _⟩
  case round =>
    obtain ⟨k, vs, rfl, hk, hOk, hfk⟩ := hrel
    clear hOg6
    have hvl : vs.length = ln := by have := hOk.1; simpa using this
    by_cases hlt : k < ln
    · obtain ⟨u, hu⟩ : ∃ u, (vs.map iv)[k]? = some u := ⟨_, List.getElem?_eq_getElem (by simp; omega)⟩
      obtain ⟨b, o, rfl, hgb, hc, hz⟩ := hOk.look hu
      cases hgb
      have hput := hide (hOk.put (j := k) (by omega) (iv (-1)))
      clear hu hOk
      have i1 : (0 : Int) ≤ (k : Int) := by omega
      have i2 : (k : Int) < (ln : Int) := by omega
      clear hvl
      go_wp2_with fail
      refine ⟨⟨k + 1, vs.set k (-1), by go_num, by omega, ?_, hfk.trans ((Fr.refl _ _).setAt _)⟩, by simp [intOf]; omega⟩
      rw [List.map_set]; exact hput.out
    · obtain ⟨w7, rfl⟩ : ∃ z, wr = z := ⟨_, rfl⟩
      have hI7p := hI6p.fr hfk (fun b hb => (hpw2 b hb).2)
      have hI7q := hI6q.fr hfk (fun b hb => hqg b hb)
      have hF7 : Fr (fun k => w.heap.size ≤ k) w wr := hF6.trans (hfk.mono fun x _ e => by rw [e]; exact hgw)
      have hFoot : ∀ b, foot p gp b → b < wr.heap.size := fun b hb => hI7p.lt hb
      clear hOk hfk hF6 hI6p hI6q hqg hvl
      go_upto_if 70 with fail
      go_cut [14] (fun s14 wx => ∃ WA Wn Wc, s14 = .slice WA Wn Wc ∧ wx = wr ∧ Hid (Wn = X.length ∧ Sl w 1 WA Wn (X.map iv)))
      case first =>
        rcases HX.out with ⟨rfl, rfl⟩ | ⟨rfl, rfl⟩
        · go_wp2_with fail
          go_meet
          case rel => exact ⟨_, _, _, rfl, rfl, hlv.symm, hL⟩
        · go_wp2_with fail
          go_meet
          case rel => exact ⟨_, _, _, rfl, rfl, rfl, Sl.nil_ _ _ _⟩
      case rest =>
      obtain ⟨WA, Wn, Wc, rfl, rfl, hW⟩ := hcut
      obtain ⟨nx, hnx⟩ : ∃ z, X.length = z := ⟨_, rfl⟩
      obtain ⟨ny, hny⟩ : ∃ z, Y.length = z := ⟨_, rfl⟩
      have hbX := hI7p.bounds
      have hbY := hI7q.bounds
      rw [hnx] at hbX hW
      rw [hny] at hbY
      have HW := hide hW.out.2
      obtain rfl := hW.out.1
      clear hW HX hk hlt
      have Hnx := hide hnx
      have Hny := hide hny
      have hWS : ∀ w', Fr (fun k => w.heap.size ≤ k) w w' → Sl w' 1 WA Wn (X.map iv) := fun w' h => HW.out.fr (B := 0) h (fun b ⟨o, e⟩ hb h => by omega)
      have LP := fun w' (h : RI w' p gp rp X) => list_any w' p gp rp X h
      have LQ := fun w' (h : RI w' q gq 65536 Y) => list_any w' q gq 65536 Y h
      simp only [ListOut, hnx, hny] at LP LQ
      have HLP := hide LP
      have HLQ := hide LQ
      have H7p := hide hI7p
      have H7q := hide hI7q
      clear hnx hny LP LQ hI7p hI7q hL hO hl2 hlv
      go_wp2_with fail
      refine (HLP.out _ H7p.out).mono ?_
      rintro e w8 ⟨A1, c1, g1, rfl, hO1, hn1, hf8⟩
      go_wp2_with fail
      refine (HLQ.out _ (H7q.out.fr hf8 (fun _ _ => id))).mono ?_
      rintro e w9 ⟨A2, c2, g2, rfl, hO2, hn2, hf9⟩
      go_wp2_with fail
      refine (HLP.out _ ((H7p.out.fr hf8 (fun _ _ => id)).fr hf9 (fun _ _ => id))).mono ?_
      rintro e w10 ⟨A3, c3, g3, rfl, hO3, hn3, hf10⟩
      have hO1' := (hO1.fr hf9 (fun _ _ => id)).fr hf10 (fun _ _ => id)
      have hO2' := hO2.fr hf10 (fun _ _ => id)
      have hI10 := ((H7p.out.fr hf8 (fun _ _ => id)).fr hf9 (fun _ _ => id)).fr hf10 (fun _ _ => id)
      have hF10 : Fr (fun k => w.heap.size ≤ k) w w10 := ((hF7.trans (hf8.weak _)).trans (hf9.weak _)).trans (hf10.weak _)
      have hgd1 : ∀ b, g1 = some b → wc.heap.size ≤ b ∧ b < w8.heap.size := fun b hb => ⟨hn1 b hb, hO1.lt b hb⟩
      have hgd2 : ∀ b, g2 = some b → w8.heap.size ≤ b ∧ b < w9.heap.size := fun b hb => ⟨hn2 b hb, hO2.lt b hb⟩
      have hgd3 : ∀ b, g3 = some b → w9.heap.size ≤ b ∧ b < w10.heap.size := fun b hb => ⟨hn3 b hb, hO3.lt b hb⟩
      have hz8 := hf8.size
      have hz9 := hf9.size
      have hz7 := hF7.size
      clear hn1 hn2 hn3 hO1 hO2 hf8 hf9 hf10 H7q hF7 HLQ
      have Hg1 := hide hgd1
      have Hg2 := hide hgd2
      have Hg3 := hide hgd3
      clear hgd1 hgd2 hgd3
      have SM := fun w' A c h2 h3 => same_int w' X A WA c Wc Wn Hnx.out.symm (by omega) h2 h3
      have HS1 := hide (SM w10 A1 c1 hO1'.sl (hWS _ hF10))
      have HS3 := hide (fun w' (h : Fr (fun _ => False) w10 w') => SM w' A3 c3 (hO3.sl.below h (fun _ _ => id)) (hWS _ (hF10.trans (h.weak _))))
      clear SM
      go_wp2_with fail
      refine HS1.out.mono ?_
      rintro e w11 ⟨rfl, hf11⟩
      clear HS1
      go_wp2_with fail
      refine (HS3.out _ hf11).mono ?_
      rintro e w12 ⟨rfl, hf12⟩
      clear HS3
      have hf := hf11.trans hf12
      have hO1 := hO1'.fr hf (fun _ _ => id)
      have hO2 := hO2'.fr hf (fun _ _ => id)
      have hO3 := hO3.fr hf (fun _ _ => id)
      have hI12 := hI10.fr hf (fun _ _ => id)
      have hF12 : Fr (fun k => w.heap.size ≤ k) w w12 := hF10.trans (hf.weak _)
      clear hf11 hf12 hO1' hO2' hI10 hF10
      obtain ⟨fA, rfl, rfl, rfl⟩ : ∃ f : Nat → Option Addr, f 0 = A1 ∧ f 1 = A2 ∧ f 2 = A3 := ⟨fun j => if j = 0 then A1 else if j = 1 then A2 else A3, rfl, rfl, rfl⟩
      obtain ⟨fc, rfl, rfl, rfl⟩ : ∃ f : Nat → Nat, f 0 = c1 ∧ f 1 = c2 ∧ f 2 = c3 := ⟨fun j => if j = 0 then c1 else if j = 1 then c2 else c3, rfl, rfl, rfl⟩
      obtain ⟨fg, rfl, rfl, rfl⟩ : ∃ f : Nat → Option Nat, f 0 = g1 ∧ f 1 = g2 ∧ f 2 = g3 := ⟨fun j => if j = 0 then g1 else if j = 1 then g2 else g3, rfl, rfl, rfl⟩
      obtain ⟨fn, e0, e1, e2⟩ : ∃ f : Nat → Nat, f 0 = Wn ∧ f 1 = ny ∧ f 2 = Wn := ⟨fun j => if j = 0 then Wn else if j = 1 then ny else Wn, rfl, rfl, rfl⟩
      obtain ⟨V, v0, v1, v2⟩ : ∃ f : Nat → List Int, f 0 = X ∧ f 1 = Y ∧ f 2 = X := ⟨fun j => if j = 0 then X else if j = 1 then Y else X, rfl, rfl, rfl⟩
      have hgn : ∀ j, j < 3 → ∀ b, fg j = some b → wc.heap.size ≤ b := fun j hj b hb => by
        have h1 := Hg1.out; have h2 := Hg2.out; have h3 := Hg3.out
        match j, hj with
        | 0, _ => exact (h1 b hb).1
        | 1, _ => have := (h2 b hb).1; omega
        | 2, _ => have := (h3 b hb).1; omega
      have hnb : ∀ j, j < 3 → fn j ≤ 65536 := fun j hj => by
        match j, hj with
        | 0, _ => omega
        | 1, _ => omega
        | 2, _ => omega
      have hgd : ∀ j j' b, j < 3 → j' < 3 → fg j = some b → fg j' = some b → j = j' := fun j j' b hj hj' hb hb' => by
        have h1 := Hg1.out b; have h2 := Hg2.out b; have h3 := Hg3.out b
        match j, hj, j', hj' with
        | 0, _, 0, _ => rfl
        | 1, _, 1, _ => rfl
        | 2, _, 2, _ => rfl
        | 0, _, 1, _ => have := h1 hb; have := h2 hb'; omega
        | 0, _, 2, _ => have := h1 hb; have := h3 hb'; omega
        | 1, _, 0, _ => have := h2 hb; have := h1 hb'; omega
        | 1, _, 2, _ => have := h2 hb; have := h3 hb'; omega
        | 2, _, 0, _ => have := h3 hb; have := h1 hb'; omega
        | 2, _, 1, _ => have := h3 hb; have := h2 hb'; omega
      have hFO : FO (w12.alloc (.cells #[.slice (fA 0) Wn (fc 0), .slice (fA 1) ny (fc 1), .slice (fA 2) Wn (fc 2)] 22)) (w12.alloc (.cells #[.slice (fA 0) Wn (fc 0), .slice (fA 1) ny (fc 1), .slice (fA 2) Wn (fc 2)] 22)) w12.heap.size fA fn fc fg V := by
        refine ⟨hgd, by rw [e0, e1, e2]; exact Bl.new _ _ _, fun j hj => ?_, Fr.refl _ _⟩
        have hal : Fr (fun _ => False) w12 (w12.alloc (.cells #[.slice (fA 0) Wn (fc 0), .slice (fA 1) ny (fc 1), .slice (fA 2) Wn (fc 2)] 22)) := (Fr.refl _ _).alloc _
        match j, hj with
        | 0, _ => rw [e0, v0]; exact hO1.fr hal (fun _ _ => id)
        | 1, _ => rw [e1, v1]; exact hO2.fr hal (fun _ _ => id)
        | 2, _ => rw [e2, v2]; exact hO3.fr hal (fun _ _ => id)
      have HFO := hide hFO
      have HE := hide (And.intro e0 (And.intro e1 e2))
      clear v0 v1 v2 e0 e1 e2 hgd Hg1 Hg2 Hg3 hFO hO1 hO2 hO3 hf Hny
      go_upto_block 2 with fail
      have hIb : RI (w12.alloc (.cells #[.slice (fA 0) Wn (fc 0), .slice (fA 1) ny (fc 1), .slice (fA 2) Wn (fc 2)] 22)) p gp rp X := hI12.fr (S := fun _ => False) ((Fr.refl _ _).alloc _) (fun _ _ => id)
      have hFb : Fr (fun k => w.heap.size ≤ k) w (w12.alloc (.cells #[.slice (fA 0) Wn (fc 0), .slice (fA 1) ny (fc 1), .slice (fA 2) Wn (fc 2)] 22)) := hF12.alloc _
      generalize w12.alloc (.cells #[.slice (fA 0) Wn (fc 0), .slice (fA 1) ny (fc 1), .slice (fA 2) Wn (fc 2)] 22) = wb at HFO hIb hFb ⊢
      generalize w12.heap.size = ab at HFO ⊢
      clear hI12 hF12 hO3
      go_cut [19] (fun _ wx => ∃ V, FO wb wx ab fA fn fc fg V ∧ ∀ j, j < 3 → V j = fullI fn j)
      case first =>
        go_wp2_with fail
        go_loopw [19] (fun v wr => ∃ (i : Nat) (V : Nat → List Int), v = .int .i64 (i : Int) ∧ i ≤ 3 ∧ FO wb wr ab fA fn fc fg V ∧ Filled fn V i 0) (fun v _ => 3 - (intOf v).toNat)
        case atStart => exact ⟨0, V, rfl, by omega, HFO.out, ⟨fun j hj => absurd hj (by omega), by simp⟩⟩
        case round =>
          obtain ⟨i, V, rfl, hi3, hFO, hV⟩ := hrel
          clear HFO
          by_cases hlt : i < 3
          · have HO := hide hFO
            have HV := hide hV
            have hni := hnb i hlt
            clear hFO hV
            have i1 : (0 : Int) ≤ (i : Int) := by omega
            have i2 : (i : Int) < 3 := by omega
            have i3 : IntKind.i64.wrap (-5000 - (i : Int)) = -5000 - (i : Int) := IntWalk.i64_in _ (by omega)
            obtain ⟨wo, rfl⟩ : ∃ z, z = wr := ⟨_, rfl⟩
            go_wp2_with fail
            go_loopw [20] (fun v wr => ∃ (k : Nat) (V : Nat → List Int), v = .int .i64 (k : Int) ∧ k ≤ fn i ∧ FO wb wr ab fA fn fc fg V ∧ Filled fn V i k) (fun v _ => fn i - (intOf v).toNat)
            case atStart => exact ⟨0, V, rfl, by omega, HO.out, HV.out⟩
            case round =>
              obtain ⟨k, V, rfl, hk, hFO, hV⟩ := hrel
              clear HO HV
              have hcell := bl3 hFO.bl hlt
              by_cases hkl : k < fn i
              · obtain ⟨u, hu⟩ : ∃ u, ((V i).map iv)[k]? = some u := ⟨_, List.getElem?_eq_getElem (by rw [List.length_map, hFO.len hlt]; exact hkl)⟩
                obtain ⟨b, o, hAi, hgb, hc, hz⟩ := (hFO.ow i hlt).look hu
                have hput := hide (hFO.put hlt hkl hAi (-5000 - (i : Int)))
                have hV2 := hide (hV.step (by rw [hFO.len hlt]; exact hkl))
                rw [hAi] at hcell
                clear hu hFO hV hAi hgb
                have k1 : (0 : Int) ≤ (k : Int) := by omega
                have k2 : (k : Int) < (fn i : Int) := by omega
                go_wp2_with fail
                exact ⟨⟨k + 1, _, by go_num, by omega, hput.out, hV2.out⟩, by simp [intOf]; omega⟩
              · have Hend := hide (hV.done (hFO.len hlt) (by omega))
                have HO := hide hFO
                clear hFO hV
                go_wp2_with fail
                exact ⟨⟨i + 1, V, by go_num, by omega, HO.out, Hend.out⟩, by simp [intOf]; omega⟩
          · obtain rfl : i = 3 := by omega
            have HO := hide hFO
            have HV := hide hV
            clear hFO hV
            go_wp2_with fail
            go_meet
            case rel => exact ⟨V, HO.out, HV.out.1⟩
      case rest =>
      obtain ⟨V2, hFO2, hV2⟩ := hcut
      have hGO := hFO2.go hV2
      have HGO := hide hGO
      clear hFO2 hV2 HFO hGO V
      obtain ⟨w13, rfl⟩ : ∃ z, z = wc := ⟨_, rfl⟩
      go_upto_block 6 with fail
      go_cut [21] (fun v wx => ∃ (Rs : List RSl) (G : Option Addr) (gc : Nat) (gg : Option Nat) (gs : List (Option Addr × Nat × Nat)), v = .slice G 120 gc ∧ GO wb wx ab fA fn fc fg 3 Rs G gc gg gs)
      case first =>
        go_wp2_with fail
        go_loopw [21, 22] (fun v21 v22 wr => ∃ (i : Nat) (Rs : List RSl) (G : Option Addr) (gc : Nat) (gg : Option Nat) (gs : List (Option Addr × Nat × Nat)), v21 = .slice G (40 * i) gc ∧ v22 = .int .i64 (i : Int) ∧ i ≤ 3 ∧ GO wb wr ab fA fn fc fg i Rs G gc gg gs ∧ ∀ b, gg = some b → wb.heap.size ≤ b) (fun _ v _ => 3 - (intOf v).toNat)
        case atStart => exact ⟨0, [], none, 0, none, [], rfl, rfl, by omega, HGO.out, fun b e => nomatch e⟩
        case round =>
          obtain ⟨i, Rs, G, gc, gg, gs, rfl, rfl, hi3, hGO, hgn2⟩ := hrel
          clear HGO
          by_cases hlt : i < 3
          · have hcell := bl3 hGO.bl hlt
            have HS := hide (hGO.start hlt hgn2)
            have hni := hnb i hlt
            clear hGO hgn2
            have i1 : (0 : Int) ≤ (i : Int) := by omega
            have i2 : (i : Int) < 3 := by omega
            have i3 : IntKind.i64.wrap (-6000 - (i : Int)) = -6000 - (i : Int) := IntWalk.i64_in _ (by omega)
            obtain ⟨wo, rfl⟩ : ∃ z, z = wr := ⟨_, rfl⟩
            go_wp2_with fail
            go_loopw [21, 23, 24] (fun v21 v23 v24 wr => ∃ (k : Nat) (mA : Option Addr) (mc : Nat) (mg : Option Nat) (Rs : List RSl) (G : Option Addr) (gc : Nat) (gg : Option Nat) (gs : List (Option Addr × Nat × Nat)), v21 = .slice G (40 * i + k) gc ∧ v23 = .slice mA (fn i + k) mc ∧ v24 = .int .i64 (k : Int) ∧ k ≤ 40 ∧ GS wb wr ab fA fn fc fg i k (40 * i + k) mA mc mg Rs G gc gg gs) (fun _ _ v _ => 40 - (intOf v).toNat)
            case atStart => exact ⟨0, _, _, _, _, _, _, _, _, rfl, rfl, rfl, by omega, HS.out⟩
            case round =>
              clear HS hcell
              obtain ⟨k, mA, mc, mg, Rs, G, gc, gg, gs, rfl, rfl, rfl, hk, hGS⟩ := hrel
              by_cases hkl : k < 40
              · have HGS := hide hGS
                clear hGS
                go_wp2_with (at_builtin; refine wpList_append_tf _ rfl _ _ 22 rfl 3 i0 (.int .i64 0) 8 Try.underlying22 hi hz0 hz1 hz2 rfl _ _ _ _ _ rfl (HGS.out.cur.fr ((Fr.refl (fun _ => False) _).alloc _) (fun _ _ => id)) _ _ _ [.int .i64 (-6000 - (i : Int))] rfl (sl_one _ _ _) (by intro u hu; simp at hu; subst hu; rfl) (by unfold maxLen; omega) (by omega) ?_)
                intro mA2 mc2 w3 mg2 hO3 hf3 hg3 ht3
                have HG2 := hide (HGS.out.grow ((Fr.refl _ _).alloc _) hO3 hf3 (by simpa using hg3) ht3)
                have hrow := HG2.out.row
                rw [HG2.out.len] at hrow
                clear hO3 hf3 hg3 ht3
                go_wp2_with (at_builtin; refine wpList_append_ow _ rfl _ _ 32 rfl 22 j0 (.slice none 0 0) 1 24 Try.underlying32 hj hj0 hj1 hj2 rfl (by decide) _ _ _ _ _ rfl (hrow.fr ((Fr.refl (fun _ => False) _).alloc _) (fun _ _ => id)) _ _ _ [.slice mA2 (fn i + (k + 1)) mc2] rfl (sl_one _ _ _) (by intro u hu; simp at hu; subst hu; rfl) (by unfold maxLen; omega) (by omega) ?_)
                intro G2 gc2 w5 gg2 hO5 hf5 hg5
                have hO5' : Ow w5 tInts 1 G2 (gs.length + 1) gc2 (gs.map slcI ++ [.slice mA2 (fn i + (k + 1)) mc2]) gg2 := by rw [HG2.out.len]; exact hO5
                have HG3 := hide (HG2.out.put hkl List.mem_cons_self ((Fr.refl _ _).alloc _) hO5' hf5 (by simpa using hg5))
                clear hO5 hf5 hg5 hO5' hrow
                go_wp2_with fail
                exact ⟨⟨k + 1, mA2, mc2, mg2, _, G2, gc2, gg2, _, rfl, rfl, by go_num, by omega, HG3.out⟩, by simp [intOf]; omega⟩
              · obtain rfl : k = 40 := by omega
                have HG := hide (GS.stop hGS)
                have hnew := hide hGS.new
                clear hGS
                go_wp2_with fail
                exact ⟨⟨i + 1, _, _, _, _, _, rfl, by go_num, by omega, HG.out, hnew.out⟩, by simp [intOf]; omega⟩
          · obtain rfl : i = 3 := by omega
            have HO := hide hGO
            clear hGO
            go_wp2_with fail
            go_meet
            case rel => exact ⟨_, _, _, _, _, rfl, HO.out⟩
      case rest =>
      obtain ⟨Rs, G, gc, gg, gs, rfl, hGO⟩ := hcut
      have HGO3 := hide hGO
      clear hGO HGO
      obtain ⟨w14, rfl⟩ : ∃ z, z = wc := ⟨_, rfl⟩
      have hIw : RI w14 p gp rp X := hIb.fr HGO3.out.fr (fun b hb ⟨j, hj, e⟩ => by have := hFoot b hb; have := hgn j hj b e; omega)
      have hFw : Fr (fun k => w.heap.size ≤ k) w w14 := hFb.trans (HGO3.out.fr.mono fun b _ ⟨j, hj, e⟩ => by have := hgn j hj b e; omega)
      have HIw := hide hIw
      have HFw := hide hFw
      clear hIw hFw hIb hFb hgn hFoot hz7 hz8 hz9
      go_upto_block 10 with fail
      go_cut [25] (fun _ wx => wx = w14)
      case first =>
        go_wp2_with fail
        go_loopw [25] (fun v wr => ∃ j : Nat, v = .int .i64 (j : Int) ∧ j ≤ 120 ∧ wr = w14) (fun v _ => 120 - (intOf v).toNat)
        case atStart => exact ⟨0, rfl, by omega, rfl⟩
        case round =>
          obtain ⟨j, rfl, hj, rfl⟩ := hrel
          by_cases hlt : j < 120
          · obtain ⟨⟨ra, rn, rc⟩, hr⟩ : ∃ r, gs[j]? = some r := ⟨_, List.getElem?_eq_getElem (by have := HGO3.out.len; omega)⟩
            obtain ⟨hrn, hrm⟩ := HGO3.out.gr j _ hr
            obtain ⟨gb, go, rfl, -, d1, -⟩ := HGO3.out.row.look (j := j) (u := .slice ra rn rc) (by rw [List.getElem?_map, hr]; rfl)
            have hSr : Sl wr 1 ra rn ((grownI fn (j / 40) (j % 40 + 1)).map iv) := (HGO3.out.ok _ hrm).1.1
            obtain ⟨i, hi⟩ : ∃ i, j / 40 = i := ⟨_, rfl⟩
            obtain ⟨t, ht⟩ : ∃ t, j % 40 + 1 = t := ⟨_, rfl⟩
            have hq : (j : Int).tdiv 40 = (i : Int) := by rw [← hi]; rfl
            have i3 : i < 3 := by omega
            have ht1 : t ≤ 40 := by omega
            have hSa : Sl wr 1 (fA i) (fn i) ((fullI fn i).map iv) := (HGO3.out.ok _ (HGO3.out.all i i3)).1.1
            have d2 := bl3 HGO3.out.bl i3
            rw [hi, ht] at hSr
            rw [hi, ht] at hrn
            have hni := hnb i i3
            have hrn' : rn = fn i + t := hrn
            have Hrn := hide hrn'
            have hrb : rn ≤ 70000 := by omega
            have q1 : IntKind.i64.wrap (i : Int) = (i : Int) := IntWalk.i64_in _ (by omega)
            have q2 : ¬ ((40 : Int) = 0) := by omega
            have j1 : (0 : Int) ≤ (j : Int) := by omega
            have j2 : (j : Int) < 120 := by omega
            clear hr hrn hrn' hrm hi ht
            go_wp2_with fail
            go_loopw [27] (fun v wx => ∃ k : Nat, v = .int .i64 (k : Int) ∧ k ≤ rn ∧ wx = wr) (fun v _ => rn - (intOf v).toNat)
            case atStart => exact ⟨0, rfl, by omega, rfl⟩
            case round =>
              obtain ⟨k, rfl, hk, hwx⟩ := hrel
              subst hwx
              have k1 : (0 : Int) ≤ (k : Int) := by omega
              have e1 : (0 : Int) ≤ (i : Int) := by omega
              have e2 : (i : Int) < 3 := by omega
              by_cases hkl : k < rn
              · have k2 : (k : Int) < (rn : Int) := by omega
                by_cases hki : k < fn i
                · obtain ⟨rb, ro, rfl, d3⟩ := hSr.at_ (get_grown1 fn i t k hki)
                  obtain ⟨fb, fo, hfa, d4⟩ := hSa.at_ (get_full fn i k hki)
                  rw [hfa] at d2
                  have k3 : (k : Int) < (fn i : Int) := by omega
                  have k4 : IntKind.i64.wrap (-5000 - (i : Int)) = -5000 - (i : Int) := IntWalk.i64_in _ (by omega)
                  clear hSr hSa hfa
                  go_wp2_with fail
                  exact ⟨⟨k + 1, by go_num, by omega, trivial⟩, by simp [intOf]; omega⟩
                · obtain ⟨rb, ro, rfl, d3⟩ := hSr.at_ (get_grown2 fn i t k hki (by have := Hrn.out; omega))
                  have k3 : ¬ (k : Int) < (fn i : Int) := by omega
                  have k5 : (fn i : Int) ≤ (k : Int) := by omega
                  have k4 : IntKind.i64.wrap (-6000 - (i : Int)) = -6000 - (i : Int) := IntWalk.i64_in _ (by omega)
                  clear hSr hSa
                  go_wp2_with fail
                  exact ⟨⟨k + 1, by go_num, by omega, trivial⟩, by simp [intOf]; omega⟩
              · obtain rfl : k = rn := by omega
                clear hSr hSa
                go_wp2_with fail
                exact ⟨⟨j + 1, by go_num, by omega, trivial⟩, by simp [intOf]; omega⟩
          · obtain rfl : j = 120 := by omega
            go_wp2_with fail
            go_meet
            case rel => rfl
      case rest =>
      obtain rfl := hcut
      clear HGO3
      go_wp2_with fail
      refine (HLP.out _ HIw.out).mono ?_
      rintro e w15 ⟨A9, c9, g9, rfl, hO9, -, hf9⟩
      have hFE : Fr (fun k => w.heap.size ≤ k) w w15 := HFw.out.trans (hf9.weak _)
      have hSM := same_int w15 X A9 WA c9 Wc Wn Hnx.out.symm (by omega) hO9.sl (hWS _ hFE)
      clear hO9
      go_wp2_with fail
      refine hSM.mono ?_
      rintro e w16 ⟨rfl, hf16⟩
      go_wp2_with fail
      go_ret
      exact ⟨rfl, (hFE.trans (hf16.weak _)).toBelow (Nat.le_refl _) (fun k hk h => by omega)⟩
#print axioms own_walk
end Go.Proofs.Yteleakbbppbnnaa
