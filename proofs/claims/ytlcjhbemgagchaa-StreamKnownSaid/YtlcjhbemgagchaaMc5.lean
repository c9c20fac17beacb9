/-
  Texts merged into one, to keep the claim small: TlvRGet, TlvGets1, TlvL1, TlvL2, TlvL3.
-/
import Derived.Test.YtlcjhbemgagchaaMc4
section
/-
  The reference's Get.
-/
namespace Go.Proofs.Ytlcjhbemgagchaa
open Go.RowKit
set_option linter.unusedVariables false
attribute [local go_sem ↓] Go.wp_at_zero Go.wp_at_succ
theorem RGetPost.bad {bs : List Nat} {w w' : World} {p : Nat} {er : Int} (h : getAll bs = ([], p, er)) (hf : Fr (fun _ => False) w w') : GetPost FO.rCells 173 5 bs w (.returned (.tuple #[.slice none 0 0, .int .i64 (p : Int), .int .i64 er])) w' :=
  ⟨[], none, 0, 0, none, by rw [h], rfl, by rw [h]; rfl, Ow.nil_ _ _ _, (fun b h => by cases h), FOs.nil_ _ _ _, hf⟩

set_option maxHeartbeats 4000000 in
set_option maxRecDepth 100000 in
theorem rget_any (w : World) (xs : List Nat) (A : Option Addr) (n c : Nat) (hn : n ≤ 140737488355328) (hc : n ≤ c) (hc2 : c ≤ 9223372036854775807) (hl : n = xs.length) (h256 : ∀ x ∈ xs, x < 256) (hA : Sl w 1 A n (xs.map bn)) :
    Calls Try.prog 119 #[.slice A n c] w (GetPost FO.rCells 173 5 xs w) := by
  obtain ⟨j0, hj, hj0, hj1, hj2⟩ := info_parts info42
  have Hl := hide hl
  clear hl
  by_cases hbig : 1048576 < n
  · have hg : Hid (getAll xs = ([], 0, 3)) := by show _ = _; rw [getAll, if_pos (by rw [← Hl.out]; exact hbig)]
    have hb' : (1048576 : Int) < (n : Int) := by omega
    go_enter Try.func119, Try.ntmps119
    go_wp2_with fail
    go_ret3
    exact RGetPost.bad (p := 0) (er := 3) hg.out (Fr.refl _ _)
  have hb' : ¬ (1048576 : Int) < (n : Int) := by omega
  have Hsm : Hid (¬ 1048576 < xs.length) := by show ¬ _; rw [← Hl.out]; exact hbig
  clear hbig
  go_enter Try.func119, Try.ntmps119
  go_wp2_with fail
  go_loopw [5, 6, 7] (fun u v i wr => ∃ (a last : Nat) (rs : List FO) (L : Option Addr) (k cl : Nat) (g : Option Nat), u = .slice L k cl ∧ v = .int .i64 (last : Int) ∧ i = .int .i64 (a : Int) ∧ a ≤ n ∧ k ≤ a ∧ Hid (k = rs.length) ∧
    Hid (getS xs 0 0 = (rs.map (·.F) ++ (getS xs a last).1, (getS xs a last).2)) ∧ Ow wr 173 5 L k cl (rs.flatMap FO.rCells) g ∧ (∀ b, g = some b → w.heap.size ≤ b) ∧ FOs wr xs w.heap.size rs ∧ Fr (fun _ => False) w wr) (fun _ _ i _ => n - (intOf i).toNat)
  case atStart => exact ⟨0, 0, [], none, 0, 0, none, rfl, rfl, rfl, by omega, by omega, rfl, by show _ = _; simp, Ow.nil_ _ _ _, (fun b h => by cases h), FOs.nil_ _ _ _, Fr.refl _ _⟩
  case round =>
    obtain ⟨a, last, rs, L, k, cl, g, rfl, rfl, rfl, ha, hka, hk, hG, hO, hg, hF, hf⟩ := hrel
    by_cases hlt : a < n
    · have hal : a < xs.length := by rw [← Hl.out]; exact hlt
      have hu := bn_get (xs := xs) (k := a) hal
      obtain ⟨b, o, rfl, cw⟩ := hA.at_ hu
      have hbl := hA.lt b o rfl (by omega)
      have ca := (hf.cell hbl id).trans cw
      have hS := hA.below hf (fun _ _ => id)
      have hx : xs.getD a 0 < 256 := h256 _ (by rw [List.getD_eq_getElem?_getD, List.getElem?_eq_getElem hal]; exact List.getElem_mem hal)
      obtain ⟨x, hxx⟩ : ∃ x, xs.getD a 0 = x := ⟨_, rfl⟩
      have HX := hide hxx
      rw [hxx] at ca hx
      have w1 : IntKind.i64.wrap (x : Int) = (x : Int) := IntWalk.i64_in _ (by omega)
      have i0 : (0 : Int) ≤ (a : Int) := by omega
      have i1 : (a : Int) < (n : Int) := by omega
      clear hu cw hxx
      by_cases hlast : x ≤ last
      · have he := hide (getAll_bad Hsm.out ((hG.out.trans (by rw [getS_bad hal (stepG_order (by rw [HX.out]; exact hlast))])) : getS xs 0 0 = (_, a, 21)) (by omega))
        have hla : (x : Int) ≤ (last : Int) := by omega
        go_wp2_with fail
        all_goals
          go_ret3
          exact RGetPost.bad he.out hf
      · have hla : ¬ (x : Int) ≤ (last : Int) := by omega
        have hx0 : ¬ (x : Int) = 0 := by omega
        have Hlast : Hid (¬ xs.getD a 0 ≤ last) := by show ¬ _; rw [HX.out]; exact hlast
        clear hlast
        obtain ⟨N, hN⟩ : ∃ N, (readShort xs ((a + 1 : Nat) : Int)).1 = N := ⟨_, rfl⟩
        obtain ⟨T, hT⟩ : ∃ T, (readShort xs ((a + 1 : Nat) : Int)).2.1 = T := ⟨_, rfl⟩
        obtain ⟨E, hE⟩ : ∃ E, (readShort xs ((a + 1 : Nat) : Int)).2.2 = E := ⟨_, rfl⟩
        have hr : readShort xs ((a + 1 : Nat) : Int) = (N, T, E) := by rw [← hN, ← hT, ← hE]
        have hv : Hid (ReadVal xs ((a : Int) + 1) = .tuple #[.int .u64 (N : Int), .int .i64 T, .int .i64 E]) := by
          show _ = _
          rw [show (a : Int) + 1 = ((a + 1 : Nat) : Int) by omega, ReadVal, hr]
        have hp0 : Hid (pieceS xs (a + 1) = if E ≠ 0 then .inr (a + 1, E) else if xs.length - T.toNat < N then .inr (T.toNat, 22) else .inl (T.toNat, T.toNat + N)) := by
          show _ = _; rw [pieceS, hr]
        clear hN hT hE
        by_cases hE0 : E = 0
        · subst hE0
          obtain ⟨h1, h2⟩ := readShort_ok hr
          rw [← Hl.out] at h2
          obtain ⟨t, rfl⟩ : ∃ t : Nat, T = (t : Int) := ⟨T.toNat, by omega⟩
          have hp : Hid (pieceS xs (a + 1) = if n - t < N then .inr (t, 22) else .inl (t, t + N)) := by
            show _ = _; rw [hp0.out, Hl.out]; rfl
          clear hr hp0
          have w3 : IntKind.i64.wrap ((n : Int) - t) = (n : Int) - t := IntWalk.i64_in _ (by omega)
          have w4 : IntKind.u64.wrap ((n : Int) - t) = (n : Int) - t := IntWalk.u64_in _ (by omega)
          by_cases hN0 : N = 0
          · subst hN0
            have hp' : pieceS xs (a + 1) = .inl (t, t) := by rw [hp.out, if_neg (by omega)]; rfl
            have he := hide (getAll_bad Hsm.out ((hG.out.trans (by rw [getS_bad hal (stepG_none Hlast.out hp')])) : getS xs 0 0 = (_, a + 1, 20)) (by omega))
            clear hp hp'
            go_wp2_with fail
            refine (rread_any _ xs _ n c _ hn Hl.out h256 hS).mono ?_
            rintro e w' ⟨rfl, rfl⟩
            rw [hv.out]
            go_wp2_with fail
            go_ret3
            exact RGetPost.bad he.out hf
          by_cases hb : n - t < N
          · have hb' : (n : Int) - t < N := by omega
            have he := hide (getAll_bad Hsm.out ((hG.out.trans (by rw [getS_bad hal (stepG_piece Hlast.out (hp.out.trans (if_pos hb)))])) : getS xs 0 0 = (_, t, 22)) (by omega))
            have hN0' : ¬ (N : Int) = 0 := by omega
            clear hp hb
            go_wp2_with fail
            refine (rread_any _ xs _ n c _ hn Hl.out h256 hS).mono ?_
            rintro e w' ⟨rfl, rfl⟩
            rw [hv.out]
            go_wp2_with fail
            go_ret3
            exact RGetPost.bad he.out hf
          · have hb' : ¬ (n : Int) - t < N := by omega
            have hstep : Hid (stepG xs a last = .inl ⟨x, a, t, t + N⟩) := by show _ = _; rw [stepG_one Hlast.out (hp.out.trans (if_neg hb)) (by omega), HX.out]
            have hN0' : ¬ (N : Int) = 0 := by omega
            have w5 : IntKind.i64.wrap (N : Int) = (N : Int) := IntWalk.i64_in _ (by omega)
            have w6 : IntKind.i64.wrap ((t : Int) + N) = (t : Int) + N := IntWalk.i64_in _ (by omega)
            have k0 : (0 : Int) ≤ t := by omega
            have k1 : (t : Int) ≤ (t : Int) + N := by omega
            have k2 : (t : Int) + N ≤ c := by omega
            clear hp
            go_wp2_with fail
            refine (rread_any _ xs _ n c _ hn Hl.out h256 hS).mono ?_
            rintro e w' ⟨rfl, rfl⟩
            rw [hv.out]
            go_wp2_with fail
            have f4 : t + N ≤ n := by omega
            have hFl : t + N - t = N := Nat.add_sub_cancel_left _ _
            have hval := hS.part (f := t) (t := t + N) (by omega) f4
            rw [← List.map_drop, ← List.map_take, hFl] at hval
            refine (copied_any _ (GF.val xs ⟨x, a, t, t + N⟩) _ N _ (by omega) (by rw [GF.val, hFl]; exact hval)).mono ?_
            rintro e w2 ⟨A2, c2, g2, rfl, hO2, hg2, hf2⟩
            have hL2 := hO.fr hf2 (fun _ _ => id)
            go_wp2_with (first | (at_builtin; refine wpList_append_ow _ rfl _ _ 132 rfl 173 j0 _ 5 56 Try.underlying132 hj hj0 hj1 hj2 rfl (by decide) _ _ _ _ _ rfl (hL2.fr ((Fr.refl (fun _ => False) _).alloc _) (fun _ _ => id)) _ _ _ [.int .i64 x, .slice A2 N c2, .int .i64 a, .int .i64 t, .bool false] rfl (Sl.row _ _ _ 5 1 rfl) (by intro u hu; simp at hu; rcases hu with rfl | rfl | rfl | rfl | rfl <;> rfl) (by unfold maxLen; omega) (by omega) ?_) | go_in)
            intro L3 cl3 w3 g3 hO3 hf3 hg3
            go_wp2_with fail
            have hf23 : Fr (fun y => some y = g) w2 w3 := ((Fr.refl _ _).alloc _).comp hf3 (fun _ _ e => e)
            have hg2g : ∀ x y, g = some x → g2 = some y → x ≠ y := fun x y e1 e2 => by
              subst e1; subst e2; exact Ow.ne hL2 hO2 (by decide)
            have hk3 := hk.out
            refine ⟨⟨t + N, x, rs ++ [⟨⟨x, a, t, t + N⟩, A2, N, c2, g2⟩], L3, k + 1, cl3, g3, rfl, rfl, by simp, f4, by omega, ?_, ?_, ?_, ?_, ?_, ?_⟩, by simp [intOf]; omega⟩
            · show k + 1 = _; rw [hk3]; simp
            · show _ = _
              rw [hG.out, getS_one hal hstep.out (by show a < t + N; omega)]
              simp
            · rw [List.flatMap_append]
              simpa [FO.rCells] using hO3
            · intro y e
              rcases hg3 with h | ⟨b2, h, hb2⟩
              · exact hg y (h ▸ e)
              · rw [h] at e; cases e
                have h5 := hf.size
                have h6 := hf2.size
                first | omega | (simp at hb2; omega)
            · have hO2' := Ow.fr hO2 hf23 fun x e1 e2 => hg2g x x e2.symm e1 rfl
              refine FOs.add (S := fun k => some k = g) (w := wr) hF ((hf2.weak _).comp hf23 (fun _ _ e => e)) ?_ hO2' hg2 hf.size
              intro r hr y e1 e2
              have := hF.own r hr
              rw [e1] at this
              rw [← e2] at hO
              exact Ow.ne hO this (by decide) rfl
            · exact (hf.trans hf2).comp hf23 fun y hy e => by
                have := hg y e.symm
                omega
        · have he := hide (getAll_bad Hsm.out ((hG.out.trans (by rw [getS_bad hal (stepG_piece Hlast.out (hp0.out.trans (if_pos hE0)))])) : getS xs 0 0 = (_, a + 1, E)) hE0)
          clear hp0 hr
          go_wp2_with fail
          refine (rread_any _ xs _ n c _ hn Hl.out h256 hS).mono ?_
          rintro e w' ⟨rfl, rfl⟩
          rw [hv.out]
          go_wp2_with fail
          go_ret3
          exact RGetPost.bad he.out hf
    · obtain rfl : a = n := by omega
      have he := hide (getAll_ok Hsm.out ((hG.out.trans (by rw [getS_end (by rw [← Hl.out]; omega), List.append_nil])) : getS xs 0 0 = (_, 0, 0)))
      clear hlt
      go_wp2_with fail
      go_ret3
      exact ⟨rs, L, k, cl, g, by rw [he.out]; rfl, hk.out, by rw [he.out], hO, hg, hF, hf⟩
end Go.Proofs.Ytlcjhbemgagchaa
end

section
/-
  TlvGets: fieldsSame.
-/
namespace Go.Proofs.Ytlcjhbemgagchaa
open Go.RowKit
set_option linter.unusedVariables false
attribute [local go_sem ↓] Go.wp_at_zero Go.wp_at_succ

/-- The cells of a row within a slice of rows. -/
theorem Ow.rowAt {α : Type} {f : α → List Value} {s : Nat} (hs : ∀ x, (f x).length = s) {w : World} {e : TypeId} {A : Option Addr} {n c : Nat} {g : Option Nat} {rs : List α} (hO : Ow w e s A n c (rs.flatMap f) g) {k : Nat} (hk : k < rs.length) (h0 : 0 < s) :
    ∃ b o, A = some ⟨b, o, none⟩ ∧ g = some b ∧ ∀ j u, (f rs[k])[j]? = some u → w.cell? ⟨b, o + k * s + j, none⟩ = some u ∧ w.frozen? ⟨b, o + k * s + j, none⟩ = false := by
  have hx : ∀ j, j < s → (rs.flatMap f)[k * s + j]? = (f rs[k])[j]? := fun j hj => rows_get f s hs rs k j hk hj
  have h1 : (f rs[k])[0]? = some ((f rs[k])[0]'(by rw [hs]; exact h0)) := List.getElem?_eq_getElem _
  obtain ⟨b, o, hA, hg, _, _⟩ := hO.look ((hx 0 h0).trans h1)
  refine ⟨b, o, hA, hg, fun j u hu => ?_⟩
  have hj : j < s := by rw [← hs rs[k]]; exact (List.getElem?_eq_some_iff.1 hu).1
  obtain ⟨b', o', hA', _, c0, c1⟩ := hO.look ((hx j hj).trans hu)
  rw [hA] at hA'; cases hA'
  rw [Nat.add_assoc]
  exact ⟨c0, c1⟩
theorem Ow.rowsLen {α : Type} {f : α → List Value} {s : Nat} (hs : ∀ x, (f x).length = s) {w : World} {e : TypeId} {A : Option Addr} {n c : Nat} {g : Option Nat} {rs : List α} (hO : Ow w e s A n c (rs.flatMap f) g) (h0 : 0 < s) : n = rs.length := by
  have := hO.1
  rw [rows_len f s hs] at this
  exact (Nat.eq_of_mul_eq_mul_right h0 this).symm

theorem getS_len (bs : List Nat) (a last : Nat) : (getS bs a last).1.length ≤ bs.length - a := by
  by_cases ha : a < bs.length
  · rcases hs : stepG bs a last with F | ⟨p, e⟩
    · by_cases h2 : a < F.to_
      · rw [getS_one ha hs h2]
        have := getS_len bs F.to_ F.tag
        simp only [List.length_cons]; omega
      · rw [getS, dif_pos ha, hs]; simp only [dif_neg h2]; simp
    · rw [getS_bad ha hs]; simp
  · rw [getS_end ha]; simp
termination_by bs.length - a
theorem getAll_len (bs : List Nat) : (getAll bs).1.length ≤ 1048576 := by
  unfold getAll
  split
  · simp
  · split
    · have := getS_len bs 0 0; omega
    · simp

end Go.Proofs.Ytlcjhbemgagchaa
end

section
/-
  Lists of bytes: read (LAt), owned (BSs); lentAll, keptAll, overAll, alike.
-/
namespace Go.Proofs.Ytlcjhbemgagchaa
open Go.RowKit
set_option linter.unusedVariables false
attribute [local go_sem ↓] Go.wp_at_zero Go.wp_at_succ

theorem infoB : (Try.prog.info? 22).map (fun i => (i.zero, i.size, i.bytes)) = some (some (.slice none 0 0), 1, 24) := by kernel_rfl

/-- The slice '.slice A n c' of slices of bytes reads as xss, all of it below block B. -/
def LAt (w : World) (B : Nat) (A : Option Addr) (n : Nat) (xss : List (List Nat)) : Prop :=
  n = xss.length ∧ (0 < n → ∃ b o, A = some ⟨b, o, none⟩ ∧ b < B ∧ ∀ (i : Nat) (hi : i < xss.length), ∃ V m d, w.cell? ⟨b, o + i, none⟩ = some (.slice V m d) ∧ m ≤ d ∧ d ≤ 9223372036854775807 ∧ Sl w 1 V m (xss[i].map bn) ∧ ∀ b' o', V = some ⟨b', o', none⟩ → 0 < m → b' < B)
theorem LAt.fr {w w' : World} {B n : Nat} {A : Option Addr} {xss : List (List Nat)} {S : Nat → Prop} (h : LAt w B A n xss) (hf : Fr S w w') (hS : ∀ k, k < B → ¬ S k) : LAt w' B A n xss := by
  refine ⟨h.1, fun hn => ?_⟩
  obtain ⟨b, o, hA, hb, hc⟩ := h.2 hn
  refine ⟨b, o, hA, hb, fun i hi => ?_⟩
  obtain ⟨V, m, d, c0, h1, h2, hv, hl⟩ := hc i hi
  exact ⟨V, m, d, (hf.cell (World.block_lt_of_cell? w _ c0) (hS _ hb)).trans c0, h1, h2, Sl.fr' hf hv (fun b' o' e h0 => hS _ (hl b' o' e h0)), hl⟩
theorem LAt.quiet {w w' : World} {B n : Nat} {A : Option Addr} {xss : List (List Nat)} (h : LAt w B A n xss) (hf : Fr (fun _ => False) w w') : LAt w' B A n xss := h.fr hf fun _ _ => id

/-- Bytes in memory of their own. -/
structure BS where
  xs : List Nat
  A : Option Addr
  n : Nat
  c : Nat
  g : Option Nat
def BS.cell (r : BS) : Value := .slice r.A r.n r.c
/-- Lists of bytes, each in memory of its own behind block B, with k marks behind it. -/
structure BSs (w : World) (k B : Nat) (rs : List BS) : Prop where
  own : ∀ r ∈ rs, Ow w 5 1 r.A (r.n + k) r.c ((r.xs ++ marks k).map bn) r.g
  new : ∀ r ∈ rs, ∀ b, r.g = some b → B ≤ b
  ord : rs.Pairwise fun a b => ∀ x y, a.g = some x → b.g = some y → x < y
theorem BSs.fr {w w' : World} {k B : Nat} {rs : List BS} {S : Nat → Prop} (h : BSs w k B rs) (hf : Fr S w w') (hS : ∀ x, B ≤ x → x < w.heap.size → ¬ S x) : BSs w' k B rs :=
  ⟨fun r hr => (h.own r hr).fr hf fun b e => hS b (h.new r hr b e) ((h.own r hr).lt b e), h.new, h.ord⟩
theorem BSs.quiet {w w' : World} {k B : Nat} {rs : List BS} (h : BSs w k B rs) (hf : Fr (fun _ => False) w w') : BSs w' k B rs := h.fr hf fun _ _ _ => id
theorem BSs.more {w : World} {k B B' : Nat} {rs : List BS} (h : BSs w k B rs) (hB : B' ≤ B) : BSs w k B' rs := ⟨h.own, fun r hr b e => Nat.le_trans hB (h.new r hr b e), h.ord⟩
theorem BSs.nil_ (w : World) (k B : Nat) : BSs w k B [] := ⟨(fun r h => by cases h), (fun r h => by cases h), List.Pairwise.nil⟩
theorem BSs.sub {w : World} {k B : Nat} {rs qs : List BS} (h : BSs w k B rs) (hq : qs.Sublist rs) : BSs w k B qs := ⟨fun r hr => h.own r (hq.mem hr), fun r hr => h.new r (hq.mem hr), h.ord.sublist hq⟩
/-- One more, in a world where nothing of the others has turned. -/
theorem BSs.add {w w' : World} {k B : Nat} {rs : List BS} {S : Nat → Prop} (h : BSs w k B rs) (hf : Fr S w w') (hS : ∀ r ∈ rs, ∀ x, r.g = some x → ¬ S x) {r : BS} (ho : Ow w' 5 1 r.A (r.n + k) r.c ((r.xs ++ marks k).map bn) r.g) (hn : ∀ b, r.g = some b → w.heap.size ≤ b) (hB : B ≤ w.heap.size) : BSs w' k B (rs ++ [r]) := by
  refine ⟨fun x hx => ?_, fun x hx b e => ?_, ?_⟩
  · rcases List.mem_append.1 hx with hx | hx
    · exact (h.own x hx).fr hf fun b e => hS x hx b e
    · simp at hx; subst hx; exact ho
  · rcases List.mem_append.1 hx with hx | hx
    · exact h.new x hx b e
    · simp at hx; subst hx; exact Nat.le_trans hB (hn b e)
  · rw [List.pairwise_append]
    refine ⟨h.ord, by simp, fun x hx y hy a b ha hb => ?_⟩
    simp at hy; subst hy
    have := (h.own x hx).lt a ha
    have := hn b hb
    omega
/-- The bytes without their marks. -/
theorem BSs.ow {w : World} {k B : Nat} {rs : List BS} (h : BSs w k B rs) {r : BS} (hr : r ∈ rs) : Ow w 5 1 r.A r.n r.c (r.xs.map bn) r.g := by
  have h1 := h.own r hr
  have h2 := h1.len
  rw [List.length_append, marks_len] at h2
  have h3 := h1.take (k := r.n) (by omega)
  rwa [Nat.mul_one, List.map_append, List.take_left' (by simp; omega)] at h3
theorem BSs.apart {w : World} {k B : Nat} {rs : List BS} (h : BSs w k B rs) {A : Option Addr} {e : TypeId} {s n c : Nat} {xs : List Value} {g : Option Nat} (hO : Ow w e s A n c xs g) (hne : e ≠ 5) : ∀ r ∈ rs, ∀ x, r.g = some x → ¬ some x = g := fun r hr x e1 e2 => by
  have := h.own r hr
  rw [e1] at this
  rw [← e2] at hO
  exact Ow.ne hO this hne rfl
theorem cells_get {rs : List BS} {i : Nat} (hi : i < rs.length) (more : List Value) : (rs.map BS.cell ++ more)[i]? = some (.slice rs[i].A rs[i].n rs[i].c) := by
  rw [List.getElem?_append_left (by simpa using hi)]; simp [hi, BS.cell]
/-- A slice of slices with the bytes of each: it reads as the list of these. -/
theorem BSs.lat {w : World} {k B : Nat} {rs : List BS} (h : BSs w k B rs) {A : Option Addr} {N c : Nat} {more : List Value} {g : Option Nat} (hO : Ow w 22 1 A N c (rs.map BS.cell ++ more) g) {n : Nat} (hn : n = rs.length) : LAt w w.heap.size A n (rs.map (·.xs)) := by
  refine ⟨by simpa using hn, fun h0 => ?_⟩
  obtain ⟨b, o, hA, hg, _, _⟩ := hO.look (cells_get (i := 0) (by omega) more)
  refine ⟨b, o, hA, hO.lt b hg, fun i hi => ?_⟩
  have hi' : i < rs.length := by simpa using hi
  obtain ⟨b', o', hA', _, c0, _⟩ := hO.look (cells_get hi' more)
  rw [hA] at hA'; cases hA'
  have ho := h.ow (List.getElem_mem hi')
  have hcap := ho.cap
  refine ⟨_, _, _, c0, hcap.1, by unfold maxLen at hcap; exact hcap.2, by simpa using ho.sl, fun b' o' e h0' => ho.sl.lt b' o' e h0'⟩
theorem BSs.lat' {w : World} {k B : Nat} {rs : List BS} (h : BSs w k B rs) {A : Option Addr} {c : Nat} {g : Option Nat} {n : Nat} (hO : Ow w 22 1 A n c (rs.map BS.cell) g) : LAt w w.heap.size A n (rs.map (·.xs)) := by
  have h1 : n = rs.length := by have := hO.1; simpa using this.symm
  exact h.lat (more := []) (by simpa using hO) h1

end Go.Proofs.Ytlcjhbemgagchaa
end

section
/-
  lentAll, keptAll; List of both.
-/
namespace Go.Proofs.Ytlcjhbemgagchaa
open Go.RowKit
set_option linter.unusedVariables false
attribute [local go_sem ↓] Go.wp_at_zero Go.wp_at_succ

theorem Ow.some_ {w : World} {e : TypeId} {s n c : Nat} {A : Option Addr} {xs : List Value} {g : Option Nat} (h : Ow w e s A n c xs g) (hn : 0 < n) : ∃ b, g = some b := by
  rcases h.2 with ⟨_, h0, _⟩ | ⟨b, o, cur, _, h1, _⟩
  · omega
  · exact ⟨b, h1⟩
theorem BSs.lent {w : World} {B : Nat} {rs : List BS} (h : BSs w 5 B rs) {r : BS} (hr : r ∈ rs) : ∃ g, r.g = some g ∧ Lent w r.A r.n r.c r.xs g := by
  have h1 := h.own r hr
  obtain ⟨g, e⟩ := h1.some_ (by omega)
  exact ⟨g, e, by rw [e] at h1; exact h1⟩
theorem map_get {α β : Type} {f : α → β} {l : List α} {m : List β} (h : l.map f = m) {i : Nat} (hi : i < l.length) : some (f l[i]) = m[i]? := by rw [← h]; simp [hi]
/-- Behind lentAll. -/
def LentAll (w0 w : World) (xss : List (List Nat)) (L : Option Addr) (n c : Nat) (rs : List BS) (g : Option Nat) : Prop :=
  rs.map (·.xs) = xss ++ [[1], [2]] ∧ Ow w 22 1 L (n + 2) c (rs.map BS.cell) g ∧ (∀ b, g = some b → w0.heap.size ≤ b) ∧ BSs w 5 w0.heap.size rs

end Go.Proofs.Ytlcjhbemgagchaa
end

section
/-
  List of both.
-/
namespace Go.Proofs.Ytlcjhbemgagchaa
open Go.RowKit
set_option linter.unusedVariables false
attribute [local go_sem ↓] Go.wp_at_zero Go.wp_at_succ

/-- The form of a list. -/
def listAll (xss : List (List Nat)) : List Nat := xss.flatMap fun x => short x.length ++ x
theorem listAll_take {xss : List (List Nat)} {k : Nat} (h : k < xss.length) : listAll (xss.take (k + 1)) = listAll (xss.take k) ++ (short xss[k].length ++ xss[k]) := by
  unfold listAll
  rw [List.take_succ_eq_append_getElem h, List.flatMap_append]; simp
theorem listAll_mono {xss : List (List Nat)} (k : Nat) : (listAll (xss.take k)).length ≤ (listAll xss).length := by
  have e : listAll xss = listAll (xss.take k) ++ listAll (xss.drop k) := by
    unfold listAll; rw [← List.flatMap_append, List.take_append_drop]
  rw [e, List.length_append]; omega
theorem fresh_app {w : World} {g g' : Option Nat} {k : Nat} (hg : ∀ b, g = some b → w.heap.size ≤ b) (hk : w.heap.size ≤ k) (h : g' = g ∨ ∃ b, g' = some b ∧ k ≤ b) : ∀ b, g' = some b → w.heap.size ≤ b := by
  intro b hb
  rcases h with rfl | ⟨b', rfl, h⟩
  · exact hg b hb
  · cases hb; omega

set_option maxHeartbeats 4000000 in
set_option maxRecDepth 4000 in
theorem tlist_any (w : World) (xss : List (List Nat)) (A : Option Addr) (n c B : Nat) (hn : n ≤ 1099511627776) (hB : B ≤ w.heap.size) (hM : ∀ x ∈ xss, x.length ≤ 140000000000000) (hT : (listAll xss).length ≤ 140000000000000) (hA : LAt w B A n xss) :
    Calls Try.prog 117 #[.slice A n c] w (BP (listAll xss).length (listAll xss) w) := by
  obtain ⟨i0, hi, hz0, hz1, hz2⟩ := info_parts info5
  have Hn := hide hA.1
  have HA := hide hA
  clear hA
  go_enter Try.func117, Try.ntmps117
  go_wp2_with fail
  go_loopw [3, 8] (fun u i wr => ∃ (k m cd : Nat) (D : Option Addr) (g : Option Nat), k ≤ n ∧ i = .int .i64 k ∧ u = .slice D m cd ∧ Hid (m = (listAll (xss.take k)).length) ∧ Ow wr 5 1 D m cd ((listAll (xss.take k)).map bn) g ∧ (∀ b, g = some b → w.heap.size ≤ b) ∧ Fr (fun _ => False) w wr) (fun _ i _ => n - (intOf i).toNat)
  case atStart => exact ⟨0, 0, 0, none, none, by omega, rfl, rfl, rfl, Ow.nil_ _ _ _, (fun b h => by cases h), Fr.refl _ _⟩
  case round =>
    obtain ⟨k, m, cd, D, g, hk, rfl, rfl, hm, hO, hg, hf⟩ := hrel
    have hs0 := hf.size
    have hmT : m ≤ 140000000000000 := by rw [hm.out]; exact Nat.le_trans (listAll_mono k) hT
    by_cases hlt : k < n
    · have hkl : k < xss.length := by rw [← Hn.out]; exact hlt
      obtain ⟨b, o, rfl, hbB, hc⟩ := (HA.out.quiet hf).2 (by omega)
      obtain ⟨V, mv, d, c0, _, _, hV, hVB⟩ := hc k hkl
      have hml := hV.len
      have hm2 : mv ≤ 140000000000000 := by rw [hml]; exact hM _ (List.getElem_mem hkl)
      have hmU : mv < U64 := by unfold U64; omega
      have hsl := short_le hmU
      have Hnx : Hid (listAll (xss.take (k + 1)) = listAll (xss.take k) ++ (short mv ++ xss[k])) := by show _ = _; rw [listAll_take hkl, ← hml]
      have hT2 : m + (short mv).length + mv ≤ 140000000000000 := by
        have h1 := listAll_mono (xss := xss) (k + 1)
        rw [Hnx.out, List.length_append, List.length_append, ← hm.out, ← hml] at h1
        omega
      obtain ⟨ys, hy⟩ : ∃ ys, xss[k] = ys := ⟨_, rfl⟩
      rw [hy] at hV Hnx
      have hu2 : IntKind.u64.wrap (mv : Int) = (mv : Int) := IntWalk.u64_in _ (by omega)
      clear hc hy hkl hml
      have i0' : (0 : Int) ≤ (k : Int) := by omega
      have i1 : (k : Int) < (n : Int) := by omega
      go_wp2_with fail
      refine (short_any _ mv hmU).mono ?_
      rintro e w2 ⟨A2, c2, g2, rfl, hO2, hg2, hf2⟩
      have hO' := hO.fr hf2 (fun _ _ => id)
      go_wp2_with (at_builtin; refine wpList_append_ow _ rfl _ _ 22 rfl 5 i0 (.int .u8 0) 1 1 Try.underlying22 hi hz0 hz1 hz2 rfl (by decide) _ _ _ _ _ rfl hO' _ _ _ _ rfl hO2.sl (bn_one _) (by unfold maxLen; omega) (by omega) ?_)
      intro A3 c3 w3 g3 hO3 hf3 hg3
      have hs2 := hf2.size
      have hg3' := fresh_app hg (by omega) hg3
      have hV3 := Sl.fr' hf3 (hV.below hf2 (fun _ _ => id)) fun b' o' e h0 e' => by have := hVB b' o' e h0; have := hg b' e'.symm; omega
      go_wp2_with (at_builtin; refine wpList_append_ow _ rfl _ _ 22 rfl 5 i0 (.int .u8 0) 1 1 Try.underlying22 hi hz0 hz1 hz2 rfl (by decide) _ _ _ _ _ rfl hO3 _ _ _ _ rfl hV3 (bn_one _) (by unfold maxLen; omega) (by omega) ?_)
      intro A4 c4 w4 g4 hO4 hf4 hg4
      have hs3 := hf3.size
      go_wp2_with fail
      refine ⟨⟨k + 1, m + (short mv).length + mv, c4, A4, g4, by omega, by go_num, rfl, ?_, ?_, fresh_app hg3' (by omega) hg4, ?_⟩, by simp [intOf]; omega⟩
      · show _ = _
        rw [Hnx.out, List.length_append, List.length_append, ← hm.out, hV.len]; omega
      · rw [Hnx.out]; simpa using hO4
      · exact ((hf.trans hf2).comp hf3 fun x hx e => by have := hg x e.symm; omega).comp hf4 fun x hx e => by have := hg3' x e.symm; omega
    · obtain rfl : k = n := by omega
      have hx : xss.take k = xss := List.take_of_length_le (by rw [← Hn.out]; exact Nat.le_refl _)
      rw [hx] at hO hm
      clear hlt hx
      go_wp2_with fail
      refine (own_any _ (listAll xss) D m cd (by omega) hO.sl).mono ?_
      rintro e w2 ⟨A2, c2, g2, rfl, hO2, hg2, hf2⟩
      go_wp2_with fail
      go_ret
      exact ⟨A2, c2, g2, by rw [hm.out]; rfl, by rw [← hm.out]; exact hO2, (fun b e => by have := hg2 b e; omega), hf.trans hf2⟩

set_option maxHeartbeats 4000000 in
set_option maxRecDepth 4000 in
theorem rlist_any (w : World) (xss : List (List Nat)) (A : Option Addr) (n c B : Nat) (hn : n ≤ 1099511627776) (hB : B ≤ w.heap.size) (hM : ∀ x ∈ xss, x.length ≤ 140000000000000) (hT : (listAll xss).length ≤ 140000000000000) (hA : LAt w B A n xss) :
    Calls Try.prog 115 #[.slice A n c] w (BP (listAll xss).length (listAll xss) w) := by
  obtain ⟨i0, hi, hz0, hz1, hz2⟩ := info_parts info5
  have Hn := hide hA.1
  have HA := hide hA
  clear hA
  go_enter Try.func115, Try.ntmps115
  go_wp2_with fail
  go_loopw [3, 4] (fun u i wr => ∃ (k m cd : Nat) (D : Option Addr) (g : Option Nat), k ≤ n ∧ i = .int .i64 k ∧ u = .slice D m cd ∧ Hid (m = (listAll (xss.take k)).length) ∧ Ow wr 5 1 D m cd ((listAll (xss.take k)).map bn) g ∧ (∀ b, g = some b → w.heap.size ≤ b) ∧ Fr (fun _ => False) w wr) (fun _ i _ => n - (intOf i).toNat)
  case atStart => exact ⟨0, 0, 0, none, none, by omega, rfl, rfl, rfl, Ow.nil_ _ _ _, (fun b h => by cases h), Fr.refl _ _⟩
  case round =>
    obtain ⟨k, m, cd, D, g, hk, rfl, rfl, hm, hO, hg, hf⟩ := hrel
    have hs0 := hf.size
    have hmT : m ≤ 140000000000000 := by rw [hm.out]; exact Nat.le_trans (listAll_mono k) hT
    by_cases hlt : k < n
    · have hkl : k < xss.length := by rw [← Hn.out]; exact hlt
      obtain ⟨b, o, rfl, hbB, hc⟩ := (HA.out.quiet hf).2 (by omega)
      obtain ⟨V, mv, d, c0, _, _, hV, hVB⟩ := hc k hkl
      have hml := hV.len
      have hm2 : mv ≤ 140000000000000 := by rw [hml]; exact hM _ (List.getElem_mem hkl)
      have hmU : mv < U64 := by unfold U64; omega
      have hsl := short_le hmU
      have Hnx : Hid (listAll (xss.take (k + 1)) = listAll (xss.take k) ++ (short mv ++ xss[k])) := by show _ = _; rw [listAll_take hkl, ← hml]
      have hT2 : m + (short mv).length + mv ≤ 140000000000000 := by
        have h1 := listAll_mono (xss := xss) (k + 1)
        rw [Hnx.out, List.length_append, List.length_append, ← hm.out, ← hml] at h1
        omega
      obtain ⟨ys, hy⟩ : ∃ ys, xss[k] = ys := ⟨_, rfl⟩
      rw [hy] at hV Hnx
      have hu2 : IntKind.u64.wrap (mv : Int) = (mv : Int) := IntWalk.u64_in _ (by omega)
      clear hc hy hkl hml
      have i0' : (0 : Int) ≤ (k : Int) := by omega
      have i1 : (k : Int) < (n : Int) := by omega
      go_wp2_with fail
      refine (rshort_any _ mv hmU).mono ?_
      rintro e w2 ⟨A2, c2, g2, rfl, hO2, hg2, hf2⟩
      have hO' := hO.fr hf2 (fun _ _ => id)
      go_wp2_with (at_builtin; refine wpList_append_ow _ rfl _ _ 22 rfl 5 i0 (.int .u8 0) 1 1 Try.underlying22 hi hz0 hz1 hz2 rfl (by decide) _ _ _ _ _ rfl hO' _ _ _ _ rfl hO2.sl (bn_one _) (by unfold maxLen; omega) (by omega) ?_)
      intro A3 c3 w3 g3 hO3 hf3 hg3
      have hs2 := hf2.size
      have hg3' := fresh_app hg (by omega) hg3
      have hV3 := Sl.fr' hf3 (hV.below hf2 (fun _ _ => id)) fun b' o' e h0 e' => by have := hVB b' o' e h0; have := hg b' e'.symm; omega
      have c02 := (hf2.cell (World.block_lt_of_cell? wr _ c0) id).trans c0
      have c03 := (hf3.cell (World.block_lt_of_cell? w2 _ c02) (fun e' => by have := hg b e'.symm; omega)).trans c02
      go_wp2_with (first | (at_builtin; refine wpList_append_ow _ rfl _ _ 22 rfl 5 i0 (.int .u8 0) 1 1 Try.underlying22 hi hz0 hz1 hz2 rfl (by decide) _ _ _ _ _ rfl hO3 _ _ _ _ rfl hV3 (bn_one _) (by unfold maxLen; omega) (by omega) ?_) | go_in)
      intro A4 c4 w4 g4 hO4 hf4 hg4
      have hs3 := hf3.size
      go_wp2_with fail
      refine ⟨⟨k + 1, m + (short mv).length + mv, c4, A4, g4, by omega, by go_num, rfl, ?_, ?_, fresh_app hg3' (by omega) hg4, ?_⟩, by simp [intOf]; omega⟩
      · show _ = _
        rw [Hnx.out, List.length_append, List.length_append, ← hm.out, hV.len]; omega
      · rw [Hnx.out]; simpa using hO4
      · exact ((hf.trans hf2).comp hf3 fun x hx e => by have := hg x e.symm; omega).comp hf4 fun x hx e => by have := hg3' x e.symm; omega
    · obtain rfl : k = n := by omega
      have hx : xss.take k = xss := List.take_of_length_le (by rw [← Hn.out]; exact Nat.le_refl _)
      rw [hx] at hO hm
      clear hlt hx
      go_wp2_with fail
      go_ret
      exact ⟨D, cd, g, by rw [hm.out]; rfl, by rw [← hm.out]; exact hO, hg, hf⟩
end Go.Proofs.Ytlcjhbemgagchaa
end
