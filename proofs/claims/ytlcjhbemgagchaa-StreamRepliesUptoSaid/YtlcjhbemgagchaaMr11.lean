/-
  Texts merged into one, to keep the claim small: TlvL5.
-/
import Derived.Test.YtlcjhbemgagchaaMr9
/-
  Items of both.
-/
namespace Go.Proofs.Ytlcjhbemgagchaa
open Go.RowKit
set_option linter.unusedVariables false
attribute [local go_sem ↓] Go.wp_at_zero Go.wp_at_succ

/-- The items that were told. -/
structure Told (bs : List Nat) (w w' : World) (rs : List BS) (A : Option Addr) (k c : Nat) (g : Option Nat) : Prop where
  eq : rs.map (·.xs) = (itemsAll bs).1.map (GF.val bs)
  ow : Ow w' 22 1 A k c (rs.map BS.cell) g
  new : ∀ b, g = some b → w.heap.size ≤ b
  own : BSs w' 0 w.heap.size rs
  fr : Fr (fun _ => False) w w'
theorem Told.len {bs : List Nat} {w w' : World} {rs : List BS} {A : Option Addr} {k c : Nat} {g : Option Nat} (h : Told bs w w' rs A k c g) : k = (itemsAll bs).1.length := by
  have h1 := h.ow.1
  have h2 := congrArg List.length h.eq
  simp at h1 h2; omega
theorem Told.none_ {bs : List Nat} {w w' : World} (h : (itemsAll bs).1 = []) (hf : Fr (fun _ => False) w w') : Told bs w w' [] none 0 0 none := ⟨by rw [h]; rfl, Ow.nil_ _ _ _, (fun b h => by cases h), BSs.nil_ _ _ _, hf⟩

set_option maxHeartbeats 1000000 in
set_option maxRecDepth 4000 in
theorem clipB_any (w : World) (A : Option Addr) (n c : Nat) (hn : n ≤ c) (hc : c ≤ 9223372036854775807) :
    Calls Try.prog 137 #[.slice A n c] w fun e w' => e = .returned (.slice A n n) ∧ w = w' := by
  have h1 : (n : Int) ≤ c := by omega
  go_enter Try.func137, Try.ntmps137
  go_wp2
  all_goals
    go_ret
    exact ⟨rfl, rfl⟩

/-- Behind the reference's Items. -/
def RItems (xs : List Nat) (w : World) (e : Ending) (w' : World) : Prop :=
  ∃ rs D k d g E d2 g2, e = .returned (.tuple #[.slice D k d, .slice E k d2, .int .i64 ((itemsAll xs).2.1 : Int), .int .i64 (itemsAll xs).2.2]) ∧ Told xs w w' rs D k d g ∧
      Ow w' 3 1 E k d2 ((itemsAll xs).1.map fun F => .int .i64 F.from_) g2 ∧ (∀ b, g2 = some b → w.heap.size ≤ b)
theorem RItems.bad {xs : List Nat} {w w' : World} {p : Nat} {er : Int} (h : itemsAll xs = ([], p, er)) (hf : Fr (fun _ => False) w w') : RItems xs w (.returned (.tuple #[.slice none 0 0, .slice none 0 0, .int .i64 (p : Int), .int .i64 er])) w' :=
  ⟨[], none, 0, 0, none, none, 0, none, by rw [h], Told.none_ (by rw [h]) hf, by rw [h]; exact Ow.nil_ _ _ _, fun b e => by cases e⟩

set_option maxHeartbeats 4000000 in
set_option maxRecDepth 100000 in
theorem ritems_any (w : World) (xs : List Nat) (A : Option Addr) (n c : Nat) (hn : n ≤ 1099511627776) (hc : n ≤ c) (hc2 : c ≤ 9223372036854775807) (hl : n = xs.length) (h256 : ∀ x ∈ xs, x < 256) (hA : Sl w 1 A n (xs.map bn)) :
    Calls Try.prog 120 #[.slice A n c] w (RItems xs w) := by
  obtain ⟨bi, bj, bj0, bj1, bj2⟩ := info_parts infoB
  obtain ⟨ni, nj, nj0, nj1, nj2⟩ := info_parts infoI
  have Hl := hide hl
  clear hl
  by_cases h0 : n = 0
  · subst h0
    have hg : Hid (itemsAll xs = ([], 0, 20)) := by show _ = _; rw [itemsAll, if_pos Hl.out.symm]
    go_enter Try.func120, Try.ntmps120
    go_wp2_with fail
    ((try simp only [Exit.inBlock, Exit.then]); refine bodyPost_ret (results_tmp4 rfl _ _ _) rfl ?_)
    exact RItems.bad (p := 0) (er := 20) hg.out (Fr.refl _ _)
  have Hne : Hid (¬ xs.length = 0) := by show ¬ _; rw [← Hl.out]; exact h0
  have h1 : ((n : Int) == 0) = false := by simp; omega
  obtain ⟨b, o, rfl, _⟩ := hA.2 (by omega)
  go_enter Try.func120, Try.ntmps120
  go_wp2_with fail
  go_loopw [6, 7, 8] (fun u v i wr => ∃ (a : Nat) (rs : List BS) (Fs : List GF) (L E : Option Addr) (k cl ce : Nat) (g ge : Option Nat), u = .slice L k cl ∧ v = .slice E k ce ∧ i = .int .i64 (a : Int) ∧ a ≤ n ∧ k ≤ a ∧
    Hid (itemsS xs 0 = (Fs ++ (itemsS xs a).1, (itemsS xs a).2)) ∧ Hid (rs.map (·.xs) = Fs.map (GF.val xs)) ∧ Ow wr 22 1 L k cl (rs.map BS.cell) g ∧ Ow wr 3 1 E k ce (Fs.map fun F => .int .i64 F.from_) ge ∧ (∀ b, g = some b → w.heap.size ≤ b) ∧ (∀ b, ge = some b → w.heap.size ≤ b) ∧ BSs wr 0 w.heap.size rs ∧ Fr (fun _ => False) w wr) (fun _ _ i _ => n - (intOf i).toNat)
  case atStart => exact ⟨0, [], [], none, none, 0, 0, 0, none, none, rfl, rfl, rfl, by omega, by omega, by show _ = _; simp, rfl, Ow.nil_ _ _ _, Ow.nil_ _ _ _, (fun b h => by cases h), (fun b h => by cases h), BSs.nil_ _ _ _, Fr.refl _ _⟩
  case round =>
    obtain ⟨a, rs, Fs, L, E, k, cl, ce, g, ge, rfl, rfl, rfl, ha, hka, hG, hrs, hO, hE, hg, hge, hR, hf⟩ := hrel
    by_cases hlt : a < n
    · have hal : a < xs.length := by rw [← Hl.out]; exact hlt
      have hS := hA.below hf (fun _ _ => id)
      obtain ⟨N, hN⟩ : ∃ N, (readShort xs (a : Int)).1 = N := ⟨_, rfl⟩
      obtain ⟨T, hT⟩ : ∃ T, (readShort xs (a : Int)).2.1 = T := ⟨_, rfl⟩
      obtain ⟨Er, hEr⟩ : ∃ E, (readShort xs (a : Int)).2.2 = E := ⟨_, rfl⟩
      have hr : readShort xs (a : Int) = (N, T, Er) := by rw [← hN, ← hT, ← hEr]
      have hv : Hid (ReadVal xs (a : Int) = .tuple #[.int .u64 (N : Int), .int .i64 T, .int .i64 Er]) := by
        show _ = _
        rw [ReadVal, hr]
      have hp0 : Hid (pieceS xs a = if Er ≠ 0 then .inr (a, Er) else if xs.length - T.toNat < N then .inr (T.toNat, 22) else .inl (T.toNat, T.toNat + N)) := by
        show _ = _; rw [pieceS, hr]
      clear hN hT hEr
      by_cases hE0 : Er = 0
      · subst hE0
        obtain ⟨h1', h2⟩ := readShort_ok hr
        rw [← Hl.out] at h2
        obtain ⟨t, rfl⟩ : ∃ t : Nat, T = (t : Int) := ⟨T.toNat, by omega⟩
        have hp : Hid (pieceS xs a = if n - t < N then .inr (t, 22) else .inl (t, t + N)) := by
          show _ = _; rw [hp0.out, Hl.out]; rfl
        clear hr hp0
        have w3 : IntKind.i64.wrap ((n : Int) - t) = (n : Int) - t := IntWalk.i64_in _ (by omega)
        have w4 : IntKind.u64.wrap ((n : Int) - t) = (n : Int) - t := IntWalk.u64_in _ (by omega)
        by_cases hb : n - t < N
        · have hb' : (n : Int) - t < N := by omega
          have he := hide (itemsAll_bad Hne.out ((hG.out.trans (by rw [itemsS_bad hal (hp.out.trans (if_pos hb))])) : itemsS xs 0 = (_, t, 22)) (by omega))
          clear hp hb
          go_wp2_with fail
          refine (rread_any _ xs _ n c _ (by omega) Hl.out h256 hS).mono ?_
          rintro e w' ⟨rfl, rfl⟩
          rw [hv.out]
          go_wp2_with fail
          ((try simp only [Exit.inBlock, Exit.then]); refine bodyPost_ret (results_tmp4 rfl _ _ _) rfl ?_)
          exact RItems.bad he.out hf
        · have hb' : ¬ (n : Int) - t < N := by omega
          have hstep : Hid (itemsS xs a = (⟨0, 0, t, t + N⟩ :: (itemsS xs (t + N)).1, (itemsS xs (t + N)).2)) := itemsS_one hal (hp.out.trans (if_neg hb)) (by omega)
          have w5 : IntKind.i64.wrap (N : Int) = (N : Int) := IntWalk.i64_in _ (by omega)
          have w6 : IntKind.i64.wrap ((t : Int) + N) = (t : Int) + N := IntWalk.i64_in _ (by omega)
          have k0 : (0 : Int) ≤ t := by omega
          have k1 : (t : Int) ≤ (t : Int) + N := by omega
          have k2 : (t : Int) + N ≤ c := by omega
          clear hp
          have hct : t = c ∨ ¬ c = t := by omega
          rcases hct with hct | hct
          · subst hct
            have hval : Sl wr 1 (some ⟨b, o, none⟩) 0 ((GF.val xs ⟨0, 0, t, t + N⟩).map bn) := by
              have h9 := Hl.out
              refine ⟨?_, fun h => by omega⟩
              rw [List.length_map, GF.val_len (by show t + N ≤ xs.length; omega)]
              show t + N - t = 0 * 1
              omega
            go_wp2_with fail
            refine (rread_any _ xs _ n _ _ (by omega) Hl.out h256 hS).mono ?_
            rintro e w' ⟨rfl, rfl⟩
            rw [hv.out]
            go_wp2_with fail
            have f4 : t + N ≤ n := by omega
            refine (copied_any _ (GF.val xs ⟨0, 0, t, t + N⟩) _ 0 _ (by omega) hval).mono ?_
            rintro e w2 ⟨A2, c2, g2, rfl, hO2, hg2, hf2⟩
            have hL2 := hO.fr hf2 (fun _ _ => id)
            have hE2 := hE.fr hf2 (fun _ _ => id)
            go_wp2_with (first | (at_builtin; refine wpList_append_ow _ rfl _ _ 82 rfl 22 bi (.slice none 0 0) 1 24 Try.underlying82 bj bj0 bj1 bj2 rfl (by decide) _ _ _ _ _ rfl (hL2.fr ((Fr.refl (fun _ => False) _).alloc _) (fun _ _ => id)) _ _ _ [.slice A2 0 c2] rfl (Sl.one _ _ _) (by intro u hu; simp at hu; subst hu; rfl) (by unfold maxLen; omega) (by omega) ?_) | go_in)
            intro L3 cl3 w3' g3 hO3 hf3 hg3
            have hf23 : Fr (fun y => some y = g) w2 w3' := ((Fr.refl _ _).alloc _).comp hf3 (fun _ _ e => e)
            have hE3 := hE2.fr hf23 (fun x e1 e2 => by rw [← e2] at hL2; rw [e1] at hE2; exact Ow.ne hL2 hE2 (by decide) rfl)
            go_wp2_with (first | (at_builtin; refine wpList_append_ow _ rfl _ _ 24 rfl 3 ni (.int .i64 0) 1 8 Try.underlying24 nj nj0 nj1 nj2 rfl (by decide) _ _ _ _ _ rfl (hE3.fr ((Fr.refl (fun _ => False) _).alloc _) (fun _ _ => id)) _ _ _ [.int .i64 t] rfl (Sl.one _ _ _) (by intro u hu; simp at hu; subst hu; rfl) (by unfold maxLen; omega) (by omega) ?_) | go_in)
            intro E4 ce4 w4' g4 hE4 hf4 hg4
            have hf34 : Fr (fun y => some y = ge) w3' w4' := ((Fr.refl _ _).alloc _).comp hf4 (fun _ _ e => e)
            have s0 := hf.size
            have s2 := hf2.size
            have s3 := hf23.size
            have hf24 : Fr (fun y => some y = g ∨ some y = ge) w2 w4' := (hf23.mono fun _ _ e => .inl e).trans (hf34.mono fun _ _ e => .inr e)
            have hO4 := hO3.fr hf34 (fun x e1 e2 => by rw [← e2] at hE3; rw [e1] at hO3; exact Ow.ne hO3 hE3 (by decide) rfl)
            go_wp2_with fail
            refine ⟨⟨t + N, rs ++ [⟨GF.val xs ⟨0, 0, t, t + N⟩, A2, 0, c2, g2⟩], Fs ++ [⟨0, 0, t, t + N⟩], L3, E4, k + 1, cl3, ce4, g3, g4, rfl, rfl, by simp, f4, by omega, ?_, ?_, ?_, ?_, fresh_app hg (by first | omega | (simp; omega)) hg3, fresh_app hge (by first | omega | (simp; omega)) hg4, ?_, ?_⟩, by simp [intOf]; omega⟩
            · show _ = _
              rw [hG.out, hstep.out]; simp
            · show _ = _
              rw [List.map_append, List.map_append, hrs.out]; rfl
            · rw [List.map_append]; exact hO4
            · rw [List.map_append]; exact hE4
            · have hL3 : Ow w4' 5 1 A2 (0 + 0) c2 ((GF.val xs ⟨0, 0, t, t + N⟩ ++ marks 0).map bn) g2 := by
                have : GF.val xs ⟨0, 0, t, t + N⟩ ++ marks 0 = GF.val xs ⟨0, 0, t, t + N⟩ := by simp [marks]
                rw [this]
                exact hO2.fr hf24 fun x e1 e2 => by
                  rw [e1] at hO2
                  rcases e2 with e2 | e2
                  · rw [← e2] at hL2
                    exact Ow.ne hL2 hO2 (by decide) rfl
                  · rw [← e2] at hE2
                    exact Ow.ne hE2 hO2 (by decide) rfl
              exact BSs.add (S := fun y => some y = g ∨ some y = ge) hR ((hf2.weak _).trans hf24) (fun r hr x e1 e2 => by
                rcases e2 with e2 | e2
                · exact hR.apart hO (by decide) r hr x e1 e2
                · exact hR.apart hE (by decide) r hr x e1 e2) (r := ⟨GF.val xs ⟨0, 0, t, t + N⟩, A2, 0, c2, g2⟩) hL3 hg2 s0
            · exact (hf.trans hf2).comp hf24 fun x hx e => by
                rcases e with e | e
                · have := hg x e.symm; omega
                · have := hge x e.symm; omega
          · have hval : Sl wr 1 (some ⟨b, o + t, none⟩) N ((GF.val xs ⟨0, 0, t, t + N⟩).map bn) := by
              have hval := hS.part (f := t) (t := t + N) (by omega) (by omega)
              have hFl : t + N - t = N := Nat.add_sub_cancel_left _ _
              rw [← List.map_drop, ← List.map_take, hFl] at hval
              rw [GF.val, hFl]; exact hval
            go_wp2_with fail
            refine (rread_any _ xs _ n _ _ (by omega) Hl.out h256 hS).mono ?_
            rintro e w' ⟨rfl, rfl⟩
            rw [hv.out]
            go_wp2_with fail
            have f4 : t + N ≤ n := by omega
            refine (copied_any _ (GF.val xs ⟨0, 0, t, t + N⟩) _ N _ (by omega) hval).mono ?_
            rintro e w2 ⟨A2, c2, g2, rfl, hO2, hg2, hf2⟩
            have hL2 := hO.fr hf2 (fun _ _ => id)
            have hE2 := hE.fr hf2 (fun _ _ => id)
            go_wp2_with (first | (at_builtin; refine wpList_append_ow _ rfl _ _ 82 rfl 22 bi (.slice none 0 0) 1 24 Try.underlying82 bj bj0 bj1 bj2 rfl (by decide) _ _ _ _ _ rfl (hL2.fr ((Fr.refl (fun _ => False) _).alloc _) (fun _ _ => id)) _ _ _ [.slice A2 N c2] rfl (Sl.one _ _ _) (by intro u hu; simp at hu; subst hu; rfl) (by unfold maxLen; omega) (by omega) ?_) | go_in)
            intro L3 cl3 w3' g3 hO3 hf3 hg3
            have hf23 : Fr (fun y => some y = g) w2 w3' := ((Fr.refl _ _).alloc _).comp hf3 (fun _ _ e => e)
            have hE3 := hE2.fr hf23 (fun x e1 e2 => by rw [← e2] at hL2; rw [e1] at hE2; exact Ow.ne hL2 hE2 (by decide) rfl)
            go_wp2_with (first | (at_builtin; refine wpList_append_ow _ rfl _ _ 24 rfl 3 ni (.int .i64 0) 1 8 Try.underlying24 nj nj0 nj1 nj2 rfl (by decide) _ _ _ _ _ rfl (hE3.fr ((Fr.refl (fun _ => False) _).alloc _) (fun _ _ => id)) _ _ _ [.int .i64 t] rfl (Sl.one _ _ _) (by intro u hu; simp at hu; subst hu; rfl) (by unfold maxLen; omega) (by omega) ?_) | go_in)
            intro E4 ce4 w4' g4 hE4 hf4 hg4
            have hf34 : Fr (fun y => some y = ge) w3' w4' := ((Fr.refl _ _).alloc _).comp hf4 (fun _ _ e => e)
            have s0 := hf.size
            have s2 := hf2.size
            have s3 := hf23.size
            have hf24 : Fr (fun y => some y = g ∨ some y = ge) w2 w4' := (hf23.mono fun _ _ e => .inl e).trans (hf34.mono fun _ _ e => .inr e)
            have hO4 := hO3.fr hf34 (fun x e1 e2 => by rw [← e2] at hE3; rw [e1] at hO3; exact Ow.ne hO3 hE3 (by decide) rfl)
            go_wp2_with fail
            refine ⟨⟨t + N, rs ++ [⟨GF.val xs ⟨0, 0, t, t + N⟩, A2, N, c2, g2⟩], Fs ++ [⟨0, 0, t, t + N⟩], L3, E4, k + 1, cl3, ce4, g3, g4, rfl, rfl, by simp, f4, by omega, ?_, ?_, ?_, ?_, fresh_app hg (by first | omega | (simp; omega)) hg3, fresh_app hge (by first | omega | (simp; omega)) hg4, ?_, ?_⟩, by simp [intOf]; omega⟩
            · show _ = _
              rw [hG.out, hstep.out]; simp
            · show _ = _
              rw [List.map_append, List.map_append, hrs.out]; rfl
            · rw [List.map_append]; exact hO4
            · rw [List.map_append]; exact hE4
            · have hL3 : Ow w4' 5 1 A2 (N + 0) c2 ((GF.val xs ⟨0, 0, t, t + N⟩ ++ marks 0).map bn) g2 := by
                have : GF.val xs ⟨0, 0, t, t + N⟩ ++ marks 0 = GF.val xs ⟨0, 0, t, t + N⟩ := by simp [marks]
                rw [this]
                exact hO2.fr hf24 fun x e1 e2 => by
                  rw [e1] at hO2
                  rcases e2 with e2 | e2
                  · rw [← e2] at hL2
                    exact Ow.ne hL2 hO2 (by decide) rfl
                  · rw [← e2] at hE2
                    exact Ow.ne hE2 hO2 (by decide) rfl
              exact BSs.add (S := fun y => some y = g ∨ some y = ge) hR ((hf2.weak _).trans hf24) (fun r hr x e1 e2 => by
                rcases e2 with e2 | e2
                · exact hR.apart hO (by decide) r hr x e1 e2
                · exact hR.apart hE (by decide) r hr x e1 e2) (r := ⟨GF.val xs ⟨0, 0, t, t + N⟩, A2, N, c2, g2⟩) hL3 hg2 s0
            · exact (hf.trans hf2).comp hf24 fun x hx e => by
                rcases e with e | e
                · have := hg x e.symm; omega
                · have := hge x e.symm; omega
      · have he := hide (itemsAll_bad Hne.out ((hG.out.trans (by rw [itemsS_bad hal (hp0.out.trans (if_pos hE0))])) : itemsS xs 0 = (_, a, Er)) hE0)
        clear hp0 hr
        go_wp2_with fail
        refine (rread_any _ xs _ n c _ (by omega) Hl.out h256 hS).mono ?_
        rintro e w' ⟨rfl, rfl⟩
        rw [hv.out]
        go_wp2_with fail
        ((try simp only [Exit.inBlock, Exit.then]); refine bodyPost_ret (results_tmp4 rfl _ _ _) rfl ?_)
        exact RItems.bad he.out hf
    · obtain rfl : a = n := by omega
      have he := hide (itemsAll_ok Hne.out ((hG.out.trans (by rw [itemsS_end (by rw [← Hl.out]; omega), List.append_nil])) : itemsS xs 0 = (_, 0, 0)))
      clear hlt
      go_wp2_with fail
      ((try simp only [Exit.inBlock, Exit.then]); refine bodyPost_ret (results_tmp4 rfl _ _ _) rfl ?_)
      exact ⟨rs, L, k, cl, g, E, ce, ge, by rw [he.out]; rfl, ⟨by rw [he.out]; exact hrs.out, hO, hg, hR, hf⟩, by rw [he.out]; exact hE, hge⟩
end Go.Proofs.Ytlcjhbemgagchaa
