/-
  Texts merged into one, to keep the claim small: TlvRGet.
-/
import Derived.Test.YtlcjhbemgagchaaMf8
/-
  The reference's Get.
-/
namespace Go.Proofs.Ytlcjhbemgagchaa
open Go.RowKit
set_option linter.unusedVariables false
attribute [local go_sem ↓] Go.wp_at_zero Go.wp_at_succ
theorem RGetPost.bad {bs : List Nat} {w w' : World} {p : Nat} {er : Int} (h : getAll bs = ([], p, er)) (hf : Fr (fun _ => False) w w') : GetPost FO.rCells 173 5 bs w (.returned (.tuple #[.slice none 0 0, .int .i64 (p : Int), .int .i64 er])) w' :=
  ⟨[], none, 0, 0, none, by rw [h], rfl, by rw [h]; rfl, Ow.nil_ _ _ _, (fun b h => by cases h), FOs.nil_ _ _ _, hf⟩

set_option maxHeartbeats 4000000 in
set_option maxRecDepth 100000 in
theorem rget_any (w : World) (xs : List Nat) (A : Option Addr) (n c : Nat) (hn : n ≤ 140737488355328) (hc : n ≤ c) (hc2 : c ≤ 9223372036854775807) (hl : n = xs.length) (h256 : ∀ x ∈ xs, x < 256) (hA : Sl w 1 A n (xs.map bn)) :
    Calls Try.prog 119 #[.slice A n c] w (GetPost FO.rCells 173 5 xs w) := by
  obtain ⟨j0, hj, hj0, hj1, hj2⟩ := info_parts info42
  have Hl := hide hl
  clear hl
  by_cases hbig : 1048576 < n
  · have hg : Hid (getAll xs = ([], 0, 3)) := by show _ = _; rw [getAll, if_pos (by rw [← Hl.out]; exact hbig)]
    have hb' : (1048576 : Int) < (n : Int) := by omega
    go_enter Try.func119, Try.ntmps119
    go_wp2_with fail
    go_ret3
    exact RGetPost.bad (p := 0) (er := 3) hg.out (Fr.refl _ _)
  have hb' : ¬ (1048576 : Int) < (n : Int) := by omega
  have Hsm : Hid (¬ 1048576 < xs.length) := by show ¬ _; rw [← Hl.out]; exact hbig
  clear hbig
  go_enter Try.func119, Try.ntmps119
  go_wp2_with fail
  go_loopw [5, 6, 7] (fun u v i wr => ∃ (a last : Nat) (rs : List FO) (L : Option Addr) (k cl : Nat) (g : Option Nat), u = .slice L k cl ∧ v = .int .i64 (last : Int) ∧ i = .int .i64 (a : Int) ∧ a ≤ n ∧ k ≤ a ∧ Hid (k = rs.length) ∧
    Hid (getS xs 0 0 = (rs.map (·.F) ++ (getS xs a last).1, (getS xs a last).2)) ∧ Ow wr 173 5 L k cl (rs.flatMap FO.rCells) g ∧ (∀ b, g = some b → w.heap.size ≤ b) ∧ FOs wr xs w.heap.size rs ∧ Fr (fun _ => False) w wr) (fun _ _ i _ => n - (intOf i).toNat)
  case atStart => exact ⟨0, 0, [], none, 0, 0, none, rfl, rfl, rfl, by omega, by omega, rfl, by show _ = _; simp, Ow.nil_ _ _ _, (fun b h => by cases h), FOs.nil_ _ _ _, Fr.refl _ _⟩
  case round =>
    obtain ⟨a, last, rs, L, k, cl, g, rfl, rfl, rfl, ha, hka, hk, hG, hO, hg, hF, hf⟩ := hrel
    by_cases hlt : a < n
    · have hal : a < xs.length := by rw [← Hl.out]; exact hlt
      have hu := bn_get (xs := xs) (k := a) hal
      obtain ⟨b, o, rfl, cw⟩ := hA.at_ hu
      have hbl := hA.lt b o rfl (by omega)
      have ca := (hf.cell hbl id).trans cw
      have hS := hA.below hf (fun _ _ => id)
      have hx : xs.getD a 0 < 256 := h256 _ (by rw [List.getD_eq_getElem?_getD, List.getElem?_eq_getElem hal]; exact List.getElem_mem hal)
      obtain ⟨x, hxx⟩ : ∃ x, xs.getD a 0 = x := ⟨_, rfl⟩
      have HX := hide hxx
      rw [hxx] at ca hx
      have w1 : IntKind.i64.wrap (x : Int) = (x : Int) := IntWalk.i64_in _ (by omega)
      have i0 : (0 : Int) ≤ (a : Int) := by omega
      have i1 : (a : Int) < (n : Int) := by omega
      clear hu cw hxx
      by_cases hlast : x ≤ last
      · have he := hide (getAll_bad Hsm.out ((hG.out.trans (by rw [getS_bad hal (stepG_order (by rw [HX.out]; exact hlast))])) : getS xs 0 0 = (_, a, 21)) (by omega))
        have hla : (x : Int) ≤ (last : Int) := by omega
        go_wp2_with fail
        all_goals
          go_ret3
          exact RGetPost.bad he.out hf
      · have hla : ¬ (x : Int) ≤ (last : Int) := by omega
        have hx0 : ¬ (x : Int) = 0 := by omega
        have Hlast : Hid (¬ xs.getD a 0 ≤ last) := by show ¬ _; rw [HX.out]; exact hlast
        clear hlast
        obtain ⟨N, hN⟩ : ∃ N, (readShort xs ((a + 1 : Nat) : Int)).1 = N := ⟨_, rfl⟩
        obtain ⟨T, hT⟩ : ∃ T, (readShort xs ((a + 1 : Nat) : Int)).2.1 = T := ⟨_, rfl⟩
        obtain ⟨E, hE⟩ : ∃ E, (readShort xs ((a + 1 : Nat) : Int)).2.2 = E := ⟨_, rfl⟩
        have hr : readShort xs ((a + 1 : Nat) : Int) = (N, T, E) := by rw [← hN, ← hT, ← hE]
        have hv : Hid (ReadVal xs ((a : Int) + 1) = .tuple #[.int .u64 (N : Int), .int .i64 T, .int .i64 E]) := by
          show _ = _
          rw [show (a : Int) + 1 = ((a + 1 : Nat) : Int) by omega, ReadVal, hr]
        have hp0 : Hid (pieceS xs (a + 1) = if E ≠ 0 then .inr (a + 1, E) else if xs.length - T.toNat < N then .inr (T.toNat, 22) else .inl (T.toNat, T.toNat + N)) := by
          show _ = _; rw [pieceS, hr]
        clear hN hT hE
        by_cases hE0 : E = 0
        · subst hE0
          obtain ⟨h1, h2⟩ := readShort_ok hr
          rw [← Hl.out] at h2
          obtain ⟨t, rfl⟩ : ∃ t : Nat, T = (t : Int) := ⟨T.toNat, by omega⟩
          have hp : Hid (pieceS xs (a + 1) = if n - t < N then .inr (t, 22) else .inl (t, t + N)) := by
            show _ = _; rw [hp0.out, Hl.out]; rfl
          clear hr hp0
          have w3 : IntKind.i64.wrap ((n : Int) - t) = (n : Int) - t := IntWalk.i64_in _ (by omega)
          have w4 : IntKind.u64.wrap ((n : Int) - t) = (n : Int) - t := IntWalk.u64_in _ (by omega)
          by_cases hN0 : N = 0
          · subst hN0
            have hp' : pieceS xs (a + 1) = .inl (t, t) := by rw [hp.out, if_neg (by omega)]; rfl
            have he := hide (getAll_bad Hsm.out ((hG.out.trans (by rw [getS_bad hal (stepG_none Hlast.out hp')])) : getS xs 0 0 = (_, a + 1, 20)) (by omega))
            clear hp hp'
            go_wp2_with fail
            refine (rread_any _ xs _ n c _ hn Hl.out h256 hS).mono ?_
            rintro e w' ⟨rfl, rfl⟩
            rw [hv.out]
            go_wp2_with fail
            go_ret3
            exact RGetPost.bad he.out hf
          by_cases hb : n - t < N
          · have hb' : (n : Int) - t < N := by omega
            have he := hide (getAll_bad Hsm.out ((hG.out.trans (by rw [getS_bad hal (stepG_piece Hlast.out (hp.out.trans (if_pos hb)))])) : getS xs 0 0 = (_, t, 22)) (by omega))
            have hN0' : ¬ (N : Int) = 0 := by omega
            clear hp hb
            go_wp2_with fail
            refine (rread_any _ xs _ n c _ hn Hl.out h256 hS).mono ?_
            rintro e w' ⟨rfl, rfl⟩
            rw [hv.out]
            go_wp2_with fail
            go_ret3
            exact RGetPost.bad he.out hf
          · have hb' : ¬ (n : Int) - t < N := by omega
            have hstep : Hid (stepG xs a last = .inl ⟨x, a, t, t + N⟩) := by show _ = _; rw [stepG_one Hlast.out (hp.out.trans (if_neg hb)) (by omega), HX.out]
            have hN0' : ¬ (N : Int) = 0 := by omega
            have w5 : IntKind.i64.wrap (N : Int) = (N : Int) := IntWalk.i64_in _ (by omega)
            have w6 : IntKind.i64.wrap ((t : Int) + N) = (t : Int) + N := IntWalk.i64_in _ (by omega)
            have k0 : (0 : Int) ≤ t := by omega
            have k1 : (t : Int) ≤ (t : Int) + N := by omega
            have k2 : (t : Int) + N ≤ c := by omega
            clear hp
            go_wp2_with fail
            refine (rread_any _ xs _ n c _ hn Hl.out h256 hS).mono ?_
            rintro e w' ⟨rfl, rfl⟩
            rw [hv.out]
            go_wp2_with fail
            have f4 : t + N ≤ n := by omega
            have hFl : t + N - t = N := Nat.add_sub_cancel_left _ _
            have hval := hS.part (f := t) (t := t + N) (by omega) f4
            rw [← List.map_drop, ← List.map_take, hFl] at hval
            refine (copied_any _ (GF.val xs ⟨x, a, t, t + N⟩) _ N _ (by omega) (by rw [GF.val, hFl]; exact hval)).mono ?_
            rintro e w2 ⟨A2, c2, g2, rfl, hO2, hg2, hf2⟩
            have hL2 := hO.fr hf2 (fun _ _ => id)
            go_wp2_with (first | (at_builtin; refine wpList_append_ow _ rfl _ _ 132 rfl 173 j0 _ 5 56 Try.underlying132 hj hj0 hj1 hj2 rfl (by decide) _ _ _ _ _ rfl (hL2.fr ((Fr.refl (fun _ => False) _).alloc _) (fun _ _ => id)) _ _ _ [.int .i64 x, .slice A2 N c2, .int .i64 a, .int .i64 t, .bool false] rfl (Sl.row _ _ _ 5 1 rfl) (by intro u hu; simp at hu; rcases hu with rfl | rfl | rfl | rfl | rfl <;> rfl) (by unfold maxLen; omega) (by omega) ?_) | go_in)
            intro L3 cl3 w3 g3 hO3 hf3 hg3
            go_wp2_with fail
            have hf23 : Fr (fun y => some y = g) w2 w3 := ((Fr.refl _ _).alloc _).comp hf3 (fun _ _ e => e)
            have hg2g : ∀ x y, g = some x → g2 = some y → x ≠ y := fun x y e1 e2 => by
              subst e1; subst e2; exact Ow.ne hL2 hO2 (by decide)
            have hk3 := hk.out
            refine ⟨⟨t + N, x, rs ++ [⟨⟨x, a, t, t + N⟩, A2, N, c2, g2⟩], L3, k + 1, cl3, g3, rfl, rfl, by simp, f4, by omega, ?_, ?_, ?_, ?_, ?_, ?_⟩, by simp [intOf]; omega⟩
            · show k + 1 = _; rw [hk3]; simp
            · show _ = _
              rw [hG.out, getS_one hal hstep.out (by show a < t + N; omega)]
              simp
            · rw [List.flatMap_append]
              simpa [FO.rCells] using hO3
            · intro y e
              rcases hg3 with h | ⟨b2, h, hb2⟩
              · exact hg y (h ▸ e)
              · rw [h] at e; cases e
                have h5 := hf.size
                have h6 := hf2.size
                first | omega | (simp at hb2; omega)
            · have hO2' := Ow.fr hO2 hf23 fun x e1 e2 => hg2g x x e2.symm e1 rfl
              refine FOs.add (S := fun k => some k = g) (w := wr) hF ((hf2.weak _).comp hf23 (fun _ _ e => e)) ?_ hO2' hg2 hf.size
              intro r hr y e1 e2
              have := hF.own r hr
              rw [e1] at this
              rw [← e2] at hO
              exact Ow.ne hO this (by decide) rfl
            · exact (hf.trans hf2).comp hf23 fun y hy e => by
                have := hg y e.symm
                omega
        · have he := hide (getAll_bad Hsm.out ((hG.out.trans (by rw [getS_bad hal (stepG_piece Hlast.out (hp0.out.trans (if_pos hE0)))])) : getS xs 0 0 = (_, a + 1, E)) hE0)
          clear hp0 hr
          go_wp2_with fail
          refine (rread_any _ xs _ n c _ hn Hl.out h256 hS).mono ?_
          rintro e w' ⟨rfl, rfl⟩
          rw [hv.out]
          go_wp2_with fail
          go_ret3
          exact RGetPost.bad he.out hf
    · obtain rfl : a = n := by omega
      have he := hide (getAll_ok Hsm.out ((hG.out.trans (by rw [getS_end (by rw [← Hl.out]; omega), List.append_nil])) : getS xs 0 0 = (_, 0, 0)))
      clear hlt
      go_wp2_with fail
      go_ret3
      exact ⟨rs, L, k, cl, g, by rw [he.out]; rfl, hk.out, by rw [he.out], hO, hg, hF, hf⟩
end Go.Proofs.Ytlcjhbemgagchaa
