/-
  Texts merged into one, to keep the claim small: Sx2.
-/
import Derived.Test.YtlcjhbemgagchaaMnSx1
import Derived.Test.YtlcjhbemgagchaaMnSt4
import Derived.Laws.MakeOwn
/-
  StreamKnown: the walk. (printed by pr_sx2.py)
-/
namespace Go.Proofs.Ytlcjhbemgagchaa
open Go.RowKit
set_option linter.unusedVariables false
theorem made8 (n : Nat) : (madeCells (Value.int IntKind.u8 0).cells (n * 1)).toList = (List.replicate n 0).map bn := by
  rw [Nat.mul_one, show (Value.int IntKind.u8 0).cells = #[.int .u8 0] from rfl, toList_madeCells_one, List.map_replicate]; rfl
/-- Many bytes, all of them 0, just made. -/
theorem made8_sl {w : World} {base n : Nat} {v : Value} (h : w.ownsRow base 5 1 v n (madeCells (Value.int IntKind.u8 0).cells (n * 1)).toList) : ∃ (A : Option Addr) (c : Nat) (X : List Nat), v = .slice A n c ∧ Sl w 1 A n (X.map bn) ∧ X.length = n := by
  obtain ⟨A, c, g, e, ho, -⟩ := Ow.ofOwns h
  rw [made8] at ho
  exact ⟨A, c, _, e, ho.sl, by simp⟩
theorem waits (T : List Nat) (u : Nat) : waitN T u false = T.length - u := rfl
theorem StAt.stmK {w : World} {p : Nat} (h : StAt w p [] 3 0 (fnL p) false none 0 none) : StM w p [] 0 false none :=
  ⟨[], 3, 0, fnL p, none, 0, h.bl, h.ow, .inr (.inl ⟨rfl, by decide, Nat.le_refl _, rfl, rfl, rfl, rfl⟩)⟩
set_option maxHeartbeats 4000000 in
set_option maxRecDepth 100000 in
theorem known_walk29 (w : World) : Calls Try.prog 7 #[] w fun e w' => e = .returned (.bool true) ∧ Fr (fun _ => False) w w' := by
  obtain ⟨i0, hi, hz0, hz1, hz2⟩ := info_parts info5
  go_enter Try.func7, Try.ntmps7
  go_wp2_with fail
  refine (awake29_any w).mono ?_
  rintro e w0 ⟨rfl, hf⟩
  have HF := hide hf
  clear hf
  have hal : Fr (fun _ => False) w0 (w0.alloc (.cells (([2, 1, 4] : List Nat).map bn).toArray 5)) := (Fr.refl _ _).alloc _
  have hfr := frame_any _ [2, 1, 4] (some ⟨w0.heap.size, 0, none⟩) 3 3 rfl (by decide) (sl_bytes w0 [2, 1, 4])
  rw [show frameB [2, 1, 4] = [0, 0, 3, 2, 1, 4] from rfl, show frameE [2, 1, 4] = 0 from rfl] at hfr
  have HA := hide (HF.out.trans hal)
  clear hal HF
  go_wp2_with fail
  refine hfr.mono ?_
  intro e w1 hp
  obtain ⟨B1, d1, g1, rfl, hO, -, hf⟩ := hp.at_len (L := 6) rfl
  have HS1 := hide (fun w' (hf : Fr (fun _ => False) w1 w') => hO.sl.below hf (fun _ _ => id))
  have HF := hide (HA.out.trans hf)
  clear hp hO hf hfr HA
  have hfr := frame_any w1 [] none 0 0 rfl (by decide) (Sl.nil_ _ _ _)
  rw [show frameB [] = [0, 0, 0] from rfl, show frameE [] = 0 from rfl] at hfr
  go_wp2_with fail
  refine hfr.mono ?_
  intro e w2 hp
  obtain ⟨B2, d2, g2, rfl, hO, -, hfx⟩ := hp.at_len (L := 3) rfl
  replace HS1 := hide (fun w' (hf : Fr (fun _ => False) w2 w') => HS1.out w' (hfx.trans hf))
  have HS2 := hide (fun w' (hf : Fr (fun _ => False) w2 w') => hO.sl.below hf (fun _ _ => id))
  replace HF := hide (HF.out.trans hfx)
  clear hp hO hfx hfr
  go_wp2_with (refine wpList_make_full _ rfl _ _ 22 rfl w2.heap.size 5 i0 (.int .u8 0) 1 Try.underlying22 hi hz0 hz1 .i64 .i64 _ _ 65537 rfl rfl rfl rfl (by rw [hz2]; omega) (by have : maxLen = 9223372036854775807 := rfl; omega) (Nat.le_refl _) ?_)
  intro w3 how hgr
  have hfx : Fr (fun _ => False) w2 w3 := (Fr.ofGrown hgr).mono fun k _ e => by cases e
  obtain ⟨A9, c9, X, e9, hX, hXl⟩ := made8_sl how
  cases e9
  have hfr := frame_any w3 X _ 65537 65537 hXl.symm (by decide) hX
  rw [show frameB X = [] from if_neg (by omega), show frameE X = 3 from if_neg (by omega)] at hfr
  replace HS1 := hide (fun w' (hf : Fr (fun _ => False) w3 w') => HS1.out w' (hfx.trans hf))
  replace HS2 := hide (fun w' (hf : Fr (fun _ => False) w3 w') => HS2.out w' (hfx.trans hf))
  replace HF := hide (HF.out.trans hfx)
  clear hfx how hgr hX hXl
  go_wp2_with fail
  refine hfr.mono ?_
  intro e w4 hp
  obtain ⟨B3, d3, g3, rfl, hO, -, hfx⟩ := hp.at_len (L := 0) rfl
  replace HS1 := hide (fun w' (hf : Fr (fun _ => False) w4 w') => HS1.out w' (hfx.trans hf))
  replace HS2 := hide (fun w' (hf : Fr (fun _ => False) w4 w') => HS2.out w' (hfx.trans hf))
  replace HF := hide (HF.out.trans hfx)
  clear hp hO hfx hfr
  go_wp2_with (refine wpList_make_full _ rfl _ _ 22 rfl w4.heap.size 5 i0 (.int .u8 0) 1 Try.underlying22 hi hz0 hz1 .i64 .i64 _ _ 65536 rfl rfl rfl rfl (by rw [hz2]; omega) (by have : maxLen = 9223372036854775807 := rfl; omega) (Nat.le_refl _) ?_)
  intro w5 how hgr
  have hfx : Fr (fun _ => False) w4 w5 := (Fr.ofGrown hgr).mono fun k _ e => by cases e
  obtain ⟨A9, c9, X, e9, hX, hXl⟩ := made8_sl how
  cases e9
  have hfr := frame_any w5 X _ 65536 65536 hXl.symm (by decide) hX
  rw [show frameB X = fr3 X from if_pos (by omega), show frameE X = 0 from if_pos (by omega)] at hfr
  have hx3 : (fr3 X).length = 65539 := by rw [fr3_len, hXl]
  have HX := hide (And.intro hXl hx3)
  clear hx3
  replace HS1 := hide (fun w' (hf : Fr (fun _ => False) w5 w') => HS1.out w' (hfx.trans hf))
  replace HS2 := hide (fun w' (hf : Fr (fun _ => False) w5 w') => HS2.out w' (hfx.trans hf))
  replace HF := hide (HF.out.trans hfx)
  clear hfx how hgr hX hXl
  go_wp2_with fail
  refine hfr.mono ?_
  intro e w6 hp
  obtain ⟨B4, d4, g4, rfl, hO, -, hfx⟩ := hp.at_len HX.out.2
  obtain ⟨b4, o4, rfl, hc⟩ := hO.sl.2 (by omega)
  have hc0 : w6.cell? ⟨b4, o4, none⟩ = some (.int .u8 1) := hc 0 _ (by show some (bn (X.length / 65536 % 256)) = _; rw [HX.out.1]; rfl)
  have hc1 : w6.cell? ⟨b4, o4 + 1, none⟩ = some (.int .u8 0) := hc 1 _ (by show some (bn (X.length / 256 % 256)) = _; rw [HX.out.1]; rfl)
  have HC := hide (fun w' (hf : Fr (fun _ => False) w6 w') => And.intro ((hf.cell (p := ⟨b4, o4, none⟩) (World.block_lt_of_cell? _ _ hc0) id).trans hc0) ((hf.cell (p := ⟨b4, o4 + 1, none⟩) (World.block_lt_of_cell? _ _ hc1) id).trans hc1))
  clear hc hc0 hc1
  replace HS1 := hide (fun w' (hf : Fr (fun _ => False) w6 w') => HS1.out w' (hfx.trans hf))
  replace HS2 := hide (fun w' (hf : Fr (fun _ => False) w6 w') => HS2.out w' (hfx.trans hf))
  replace HF := hide (HF.out.trans hfx)
  clear hp hO hfx hfr
  go_wp2_with fail
  refine (num29_any _ 0).mono ?_
  rintro e w' ⟨rfl, rfl⟩
  have hal : Fr (fun _ => False) w6 (w6.alloc (.cells (([0, 0, 3, 2, 1, 4] : List Nat).map bn).toArray 5)) := (Fr.refl _ _).alloc _
  have hby := bytes29_true _ [0, 0, 3, 2, 1, 4] B1 (some ⟨w6.heap.size, 0, none⟩) d1 6 6 rfl (by decide) (HS1.out _ hal) (sl_bytes w6 [0, 0, 3, 2, 1, 4])
  have HA := hide hal
  clear hal
  go_wp2_with fail
  refine hby.mono ?_
  rintro e w7 ⟨rfl, hf⟩
  have hfx := HA.out.trans hf
  replace HS1 := hide (fun w' (hf : Fr (fun _ => False) w7 w') => HS1.out w' (hfx.trans hf))
  replace HS2 := hide (fun w' (hf : Fr (fun _ => False) w7 w') => HS2.out w' (hfx.trans hf))
  replace HC := hide (fun w' (hf : Fr (fun _ => False) w7 w') => HC.out w' (hfx.trans hf))
  replace HF := hide (HF.out.trans hfx)
  clear hfx hf hby HA
  go_wp2_with fail
  refine (num29_any _ 0).mono ?_
  rintro e w' ⟨rfl, rfl⟩
  have hal : Fr (fun _ => False) w7 (w7.alloc (.cells (([0, 0, 0] : List Nat).map bn).toArray 5)) := (Fr.refl _ _).alloc _
  have hby := bytes29_true _ [0, 0, 0] B2 (some ⟨w7.heap.size, 0, none⟩) d2 3 3 rfl (by decide) (HS2.out _ hal) (sl_bytes w7 [0, 0, 0])
  have HA := hide hal
  clear hal
  go_wp2_with fail
  refine hby.mono ?_
  rintro e w8 ⟨rfl, hf⟩
  have hfx := HA.out.trans hf
  replace HS1 := hide (fun w' (hf : Fr (fun _ => False) w8 w') => HS1.out w' (hfx.trans hf))
  replace HS2 := hide (fun w' (hf : Fr (fun _ => False) w8 w') => HS2.out w' (hfx.trans hf))
  replace HC := hide (fun w' (hf : Fr (fun _ => False) w8 w') => HC.out w' (hfx.trans hf))
  replace HF := hide (HF.out.trans hfx)
  clear hfx hf hby HA
  go_wp2_with fail
  refine (num29_any _ 3).mono ?_
  rintro e w' ⟨rfl, rfl⟩
  go_wp2_with fail
  refine (num29_any _ 0).mono ?_
  rintro e w' ⟨rfl, rfl⟩
  obtain ⟨hc0, hc1⟩ := HC.out _ (Fr.refl _ _)
  go_wp2_with fail
  refine (newS_any _).mono ?_
  rintro e w9 ⟨rfl, hpA, hfx⟩
  obtain ⟨p, hpe⟩ : ∃ p, w8.heap.size = p := ⟨_, rfl⟩
  simp only [hpe] at hpA ⊢
  have HG := hide (show w.heap.size ≤ p ∧ ∀ x, (none : Option Nat) = some x → w.heap.size ≤ x from ⟨by have := HF.out.size; omega, fun x e => by cases e⟩)
  have HS := hide hpA.stmK
  replace HF := hide (HF.out.trans hfx)
  clear hpA hfx hpe hc0 hc1 HC HS1 HS2 HX
  have hal : Fr (fun _ => False) w9 (w9.alloc (.cells (([0, 0, 3, 2, 1, 4, 0] : List Nat).map bn).toArray 5)) := (Fr.refl _ _).alloc _
  have hfe := feed_any _ p [] 0 false none (HS.out.fr hal id (fun _ _ => id)) [0, 0, 3, 2, 1, 4, 0] (some ⟨w9.heap.size, 0, none⟩) 7 7 rfl (by decide) (by decide) (sl_bytes w9 [0, 0, 3, 2, 1, 4, 0])
  have HA := hide hal
  clear hal
  go_wp2_with fail
  refine hfe.mono ?_
  rintro e w10 ⟨l1, u', d', B1', m', g1', s1, rfl, h1, h2, h3, h4, h5⟩
  obtain ⟨rfl, rfl, -⟩ := fed1 h1
  have hfy : Fr (fun _ => False) w w10 := (HF.out.trans HA.out).comp h5 (fun x hx e => by
    rcases e with e | e
    · have := HG.out.1; omega
    · have := HG.out.2 x e.symm; omega)
  have hgy : ∀ x, s1 = some x → w.heap.size ≤ x := fun x e => by have := h4 x e; have := (HF.out.trans HA.out).size; omega
  have HS2 := hide h3
  have HG2 := hide (And.intro HG.out.1 hgy)
  have HF2 := hide hfy
  clear hfe h1 h2 h3 h4 h5 hfy hgy HS HG HF HA
  have HS := hide HS2.out
  have HG := hide HG2.out
  have HF := hide HF2.out
  clear HS2 HG2 HF2
  have hal : Fr (fun _ => False) w10 (w10.alloc (.cells (([0, 0, 0, 0, 1, 7] : List Nat).map bn).toArray 5)) := (Fr.refl _ _).alloc _
  have hfe := feed_any _ p ([] ++ [0, 0, 3, 2, 1, 4, 0]) 6 false s1 (HS.out.fr hal id (fun _ _ => id)) [0, 0, 0, 0, 1, 7] (some ⟨w10.heap.size, 0, none⟩) 6 6 rfl (by decide) (by decide) (sl_bytes w10 [0, 0, 0, 0, 1, 7])
  have HA := hide hal
  clear hal
  go_wp2_with fail
  refine hfe.mono ?_
  rintro e w11 ⟨l2, u', d', B2', m', g2', s2, rfl, h1, h2, h3, h4, h5⟩
  obtain ⟨rfl, rfl, hno, hlen⟩ := fed2 h1
  obtain rfl : m' = 2 := h2.len.trans hlen
  have hfy : Fr (fun _ => False) w w11 := (HF.out.trans HA.out).comp h5 (fun x hx e => by
    rcases e with e | e
    · have := HG.out.1; omega
    · have := HG.out.2 x e.symm; omega)
  have hgy : ∀ x, s2 = some x → w.heap.size ≤ x := fun x e => by have := h4 x e; have := (HF.out.trans HA.out).size; omega
  have HS2 := hide h3
  have HG2 := hide (And.intro HG.out.1 hgy)
  have HF2 := hide hfy
  have HP := hide (And.intro hno h2.pr)
  clear hfe h1 h2 h3 h4 h5 hfy hgy HS HG HF HA hno hlen
  have HS := hide HS2.out
  have HG := hide HG2.out
  have HF := hide HF2.out
  clear HS2 HG2 HF2
  go_wp2_with fail
  refine (no_any _ _ _ _ 2 _ _ HP.out.1 HP.out.2 (by decide)).mono ?_
  rintro e w12 ⟨rfl, hfx⟩
  replace HS := hide (HS.out.fr hfx id (fun _ _ => id))
  replace HF := hide (HF.out.trans hfx)
  clear hfx
  clear HP
  have hwt := waiting_any w12 p _ 13 false s2 HS.out (by decide)
  rw [show waitN _ 13 false = 0 from rfl] at hwt
  go_wp2_with fail
  refine (hwt).mono ?_
  rintro e w13 ⟨rfl, hfx⟩
  replace HS := hide (HS.out.fr hfx id (fun _ _ => id))
  replace HF := hide (HF.out.trans hfx)
  clear hfx
  clear hwt
  have hal : Fr (fun _ => False) w13 (w13.alloc (.cells (([0, 2, 0] : List Nat).map bn).toArray 5)) := (Fr.refl _ _).alloc _
  have hfe := feed_any _ p (([] ++ [0, 0, 3, 2, 1, 4, 0]) ++ [0, 0, 0, 0, 1, 7]) 13 false s2 (HS.out.fr hal id (fun _ _ => id)) [0, 2, 0] (some ⟨w13.heap.size, 0, none⟩) 3 3 rfl (by decide) (by decide) (sl_bytes w13 [0, 2, 0])
  have HA := hide hal
  clear hal
  go_wp2_with fail
  refine hfe.mono ?_
  rintro e w14 ⟨l3, u', d', B3', m', g3', s3, rfl, h1, h2, h3, h4, h5⟩
  obtain ⟨rfl, rfl, hno, hlen⟩ := fed3 h1
  obtain rfl : m' = 0 := h2.len.trans hlen
  have hfy : Fr (fun _ => False) w w14 := (HF.out.trans HA.out).comp h5 (fun x hx e => by
    rcases e with e | e
    · have := HG.out.1; omega
    · have := HG.out.2 x e.symm; omega)
  have hgy : ∀ x, s3 = some x → w.heap.size ≤ x := fun x e => by have := h4 x e; have := (HF.out.trans HA.out).size; omega
  have HS2 := hide h3
  have HG2 := hide (And.intro HG.out.1 hgy)
  have HF2 := hide hfy
  have HP := hide (And.intro hno h2.pr)
  clear hfe h1 h2 h3 h4 h5 hfy hgy HS HG HF HA hno hlen
  have HS := hide HS2.out
  have HG := hide HG2.out
  have HF := hide HF2.out
  clear HS2 HG2 HF2
  go_wp2_with fail
  refine (no_any _ _ _ _ 0 _ _ HP.out.1 HP.out.2 (by decide)).mono ?_
  rintro e w15 ⟨rfl, hfx⟩
  replace HS := hide (HS.out.fr hfx id (fun _ _ => id))
  replace HF := hide (HF.out.trans hfx)
  clear hfx
  clear HP
  have hwt := waiting_any w15 p _ 13 false s3 HS.out (by decide)
  rw [show waitN _ 13 false = 3 from rfl] at hwt
  go_wp2_with fail
  refine (hwt).mono ?_
  rintro e w16 ⟨rfl, hfx⟩
  replace HS := hide (HS.out.fr hfx id (fun _ _ => id))
  replace HF := hide (HF.out.trans hfx)
  clear hfx
  clear hwt
  go_wp2_with fail
  refine (deaf_any _ p _ 13 false s3 HS.out).mono ?_
  rintro e w' ⟨rfl, rfl⟩
  go_wp2_with fail
  refine (newS_any _).mono ?_
  rintro e w17 ⟨rfl, hpA, hfx⟩
  obtain ⟨q, hqe⟩ : ∃ q, w16.heap.size = q := ⟨_, rfl⟩
  simp only [hqe] at hpA ⊢
  have HG2 := hide (show w.heap.size ≤ q ∧ ∀ x, (none : Option Nat) = some x → w.heap.size ≤ x from ⟨by have := HF.out.size; omega, fun x e => by cases e⟩)
  clear HG HS
  have HG := hide HG2.out
  have HS := hide hpA.stmK
  replace HF := hide (HF.out.trans hfx)
  clear hpA hfx hqe HG2
  have hal : Fr (fun _ => False) w17 (w17.alloc (.cells (([0, 2, 1, 0, 0, 0] : List Nat).map bn).toArray 5)) := (Fr.refl _ _).alloc _
  have hfe := feed_any _ q [] 0 false none (HS.out.fr hal id (fun _ _ => id)) [0, 2, 1, 0, 0, 0] (some ⟨w17.heap.size, 0, none⟩) 6 6 rfl (by decide) (by decide) (sl_bytes w17 [0, 2, 1, 0, 0, 0])
  have HA := hide hal
  clear hal
  go_wp2_with fail
  refine hfe.mono ?_
  rintro e w18 ⟨l4, u', d', B4', m', g4', s4, rfl, h1, h2, h3, h4, h5⟩
  obtain ⟨rfl, rfl, hno, hlen⟩ := fed4 h1
  obtain rfl : m' = 1 := h2.len.trans hlen
  have hfy : Fr (fun _ => False) w w18 := (HF.out.trans HA.out).comp h5 (fun x hx e => by
    rcases e with e | e
    · have := HG.out.1; omega
    · have := HG.out.2 x e.symm; omega)
  have hgy : ∀ x, s4 = some x → w.heap.size ≤ x := fun x e => by have := h4 x e; have := (HF.out.trans HA.out).size; omega
  have HS2 := hide h3
  have HG2 := hide (And.intro HG.out.1 hgy)
  have HF2 := hide hfy
  have HP := hide (And.intro hno h2.pr)
  clear hfe h1 h2 h3 h4 h5 hfy hgy HS HG HF HA hno hlen
  have HS := hide HS2.out
  have HG := hide HG2.out
  have HF := hide HF2.out
  clear HS2 HG2 HF2
  go_wp2_with fail
  refine (no_any _ _ _ _ 1 _ _ HP.out.1 HP.out.2 (by decide)).mono ?_
  rintro e w19 ⟨rfl, hfx⟩
  replace HS := hide (HS.out.fr hfx id (fun _ _ => id))
  replace HF := hide (HF.out.trans hfx)
  clear hfx
  clear HP
  go_wp2_with fail
  refine (deaf_any _ q _ 0 true s4 HS.out).mono ?_
  rintro e w' ⟨rfl, rfl⟩
  have hwt := waiting_any w19 q _ 0 true s4 HS.out (by decide)
  rw [show waitN _ 0 true = 0 from rfl] at hwt
  go_wp2_with fail
  refine (hwt).mono ?_
  rintro e w20 ⟨rfl, hfx⟩
  replace HS := hide (HS.out.fr hfx id (fun _ _ => id))
  replace HF := hide (HF.out.trans hfx)
  clear hfx
  clear hwt
  have hal : Fr (fun _ => False) w20 (w20.alloc (.cells (([0, 0, 3, 2, 1, 4] : List Nat).map bn).toArray 5)) := (Fr.refl _ _).alloc _
  have hfe := feed_any _ q ([] ++ [0, 2, 1, 0, 0, 0]) 0 true s4 (HS.out.fr hal id (fun _ _ => id)) [0, 0, 3, 2, 1, 4] (some ⟨w20.heap.size, 0, none⟩) 6 6 rfl (by decide) (by decide) (sl_bytes w20 [0, 0, 3, 2, 1, 4])
  have HA := hide hal
  clear hal
  go_wp2_with fail
  refine hfe.mono ?_
  rintro e w21 ⟨l5, u', d', B5', m', g5', s5, rfl, h1, h2, h3, h4, h5⟩
  obtain ⟨rfl, rfl, rfl⟩ := fed5 h1
  obtain rfl : m' = 0 := h2.len
  have hfy : Fr (fun _ => False) w w21 := (HF.out.trans HA.out).comp h5 (fun x hx e => by
    rcases e with e | e
    · have := HG.out.1; omega
    · have := HG.out.2 x e.symm; omega)
  have hgy : ∀ x, s5 = some x → w.heap.size ≤ x := fun x e => by have := h4 x e; have := (HF.out.trans HA.out).size; omega
  have HS2 := hide h3
  have HG2 := hide (And.intro HG.out.1 hgy)
  have HF2 := hide hfy
  clear hfe h1 h2 h3 h4 h5 hfy hgy HS HG HF HA
  have HS := hide HS2.out
  have HG := hide HG2.out
  have HF := hide HF2.out
  clear HS2 HG2 HF2
  have hask := ask_any w21 zeroC (zeroC_at _) zeroC_wf
  rw [show fB zeroC.eb zeroC.ee = [] from by kernel_rfl, show fE zeroC.eb zeroC.ee = 270 from by kernel_rfl] at hask
  go_wp2_with fail
  refine hask.mono ?_
  intro e w22 hp
  obtain ⟨B6, d6, g6, rfl, -, -, hfx⟩ := hp.at_len (L := 0) rfl
  replace HF := hide (HF.out.trans hfx)
  clear hp hfx hask HS HG
  have hal : Fr (fun _ => False) w22 (w22.alloc (.cells (([0, 0, 0, 0, 0, 3, 1, 1, 1, 0] : List Nat).map bn).toArray 5)) := (Fr.refl _ _).alloc _
  have hrp := replies_any _ [0, 0, 0, 0, 0, 3, 1, 1, 1, 0] 0 0 (some ⟨w22.heap.size, 0, none⟩) 10 10 rfl (by decide) (by decide) (by decide) (by decide) (sl_bytes w22 [0, 0, 0, 0, 0, 3, 1, 1, 1, 0])
  have HA := hide hal
  clear hal
  go_wp2_with fail
  refine hrp.mono ?_
  rintro e w23 ⟨la, u', er', Ca, ma, da', ha, rfl, r1, r2, r3⟩
  obtain ⟨rfl, rfl, hlk⟩ := r1.same reps1
  replace HF := hide ((HF.out.trans HA.out).trans r3)
  obtain rfl : ma = 2 := r2.len.trans hlk.len
  have HRa := hide (fun w' (hf : Fr (fun _ => False) w23 w') => (r2.quiet hf).pr)
  have HLa := hide hlk
  clear r1 r2 r3 hlk hrp HA
  have hal : Fr (fun _ => False) w23 (w23.alloc (.cells (([0, 0, 1, 0] : List Nat).map bn).toArray 5)) := (Fr.refl _ _).alloc _
  have hrp := replies_any _ [0, 0, 1, 0] 0 0 (some ⟨w23.heap.size, 0, none⟩) 4 4 rfl (by decide) (by decide) (by decide) (by decide) (sl_bytes w23 [0, 0, 1, 0])
  have HA := hide hal
  clear hal
  go_wp2_with fail
  refine hrp.mono ?_
  rintro e w24 ⟨lb, u', er', Cb, mb, db', hb, rfl, r1, r2, r3⟩
  obtain ⟨rfl, rfl, hlk⟩ := r1.same reps2
  replace HF := hide ((HF.out.trans HA.out).trans r3)
  obtain rfl : mb = 0 := r2.len.trans hlk.len
  replace HRa := hide (fun w' (hf : Fr (fun _ => False) w24 w') => HRa.out w' ((HA.out.trans r3).trans hf))
  clear r1 r2 r3 hlk hrp HA
  go_wp2_with fail
  refine (num29_any _ 270).mono ?_
  rintro e w' ⟨rfl, rfl⟩
  go_wp2_with fail
  refine (num29_any _ 0).mono ?_
  rintro e w' ⟨rfl, rfl⟩
  have hal : Fr (fun _ => False) w24 (w24.alloc (.cells (rcells zeroR ++ rcells rid1).toArray tRpl)) := (Fr.refl _ _).alloc _
  have hk2 : Rkr w24 (w24.alloc (.cells (rcells zeroR ++ rcells rid1).toArray tRpl)) [zeroR, rid1] (some ⟨w24.heap.size, 0, none⟩) 2 2 (some w24.heap.size) := ⟨rfl, Ow.made _ _ _ _ _ _ _ rfl (by decide) (by decide) rfl, fun b e => by cases e; exact Nat.le_refl _, fun q hq => by
    rcases List.mem_cons.1 hq with rfl | hq
    · exact zeroR_at _
    · obtain rfl : q = rid1 := by simpa using hq
      exact rid1_at _⟩
  have hrl := repliesTold_any _ _ _ _ _ HLa.out _ _ 2 _ _ _ _ (by decide) (HRa.out _ hal) hk2 hal
  have HA := hide hal
  clear hal hk2
  go_wp2_with fail
  refine hrl.mono ?_
  rintro e w25 ⟨rfl, hfx⟩
  replace HF := hide ((HF.out.trans HA.out).trans hfx)
  clear hfx hrl HA HRa HLa
  go_wp2_with fail
  refine (num29_any _ 290).mono ?_
  rintro e w' ⟨rfl, rfl⟩
  have HF9 := hide (HF.out.alloc (.cells ([0, 0, 3, 2, 1, 4].map bn).toArray 5))
  clear HF
  go_wp2_with fail
  refine (feed_nil _ _).mono ?_
  rintro e w' ⟨rfl, rfl⟩
  go_wp2_with fail
  refine (waiting_nil _).mono ?_
  rintro e w' ⟨rfl, rfl⟩
  go_wp2_with fail
  refine (deaf_nil _).mono ?_
  rintro e w' ⟨rfl, rfl⟩
  go_wp2_with fail
  go_ret
  exact ⟨rfl, HF9.out⟩
end Go.Proofs.Ytlcjhbemgagchaa
