/-
  StillRot: the walk.
-/
import Derived.Test.YtchajbiloaiekaaSlc
import Derived.Test.YtchajbiloaiekaaSr0
import Derived.Test.YtchajbiloaiekaaAny
import Derived.Deep.CutBlock
namespace Go.Proofs.Ytchajbiloaiekaa
open Go.RowKit
set_option linter.unusedVariables false
theorem sec_set_same {sf : List Nat} {n m i y : Nat} (h : sf.length = n * 64) (hm : m < n) (hi : i < 64) : sec (sf.set (m * 64 + i) y) m = (sec sf m).set i y := by
  have hh := Nat.mul_le_mul_right 64 (show m + 1 ≤ n by omega)
  have hl := sec_len h hm
  apply List.ext_getElem?
  intro z
  by_cases hz : z < 64
  · rw [sec_get _ _ _ hz, List.getElem?_set, List.getElem?_set]
    by_cases hzi : i = z
    · subst hzi
      rw [if_pos rfl, if_pos (by omega), if_pos rfl, if_pos (by omega)]
    · rw [if_neg (by omega), if_neg hzi, sec_get _ _ _ hz]
  · rw [List.getElem?_eq_none (by rw [sec_len (n := n) (by rw [List.length_set]; exact h) hm]; omega), List.getElem?_eq_none (by rw [List.length_set, hl]; omega)]
theorem sec_set_other {sf : List Nat} {n m i y k : Nat} (h : sf.length = n * 64) (hk : k < n) (hi : i < 64) (hne : k ≠ m) : sec (sf.set (m * 64 + i) y) k = sec sf k := by
  apply List.ext_getElem?
  intro z
  by_cases hz : z < 64
  · rw [sec_get _ _ _ hz, List.getElem?_set, if_neg (by omega), sec_get _ _ _ hz]
  · rw [List.getElem?_eq_none (by rw [sec_len (n := n) (by rw [List.length_set]; exact h) hk]; omega), List.getElem?_eq_none (by rw [sec_len h hk]; omega)]
theorem xor_ne {x b : Nat} (hb : b ≠ 0) : x ^^^ b ≠ x := fun h => by
  have := congrArg (x ^^^ ·) h
  simp only [← Nat.xor_assoc, Nat.xor_self, Nat.zero_xor] at this
  exact hb this
theorem sec_ge {sf : List Nat} {n k : Nat} (h : sf.length = n * 64) (hk : n ≤ k) : sec sf k = [] := by
  have hh := Nat.mul_le_mul_right 64 hk
  unfold sec
  rw [List.drop_eq_nil_of_le (by omega)]; rfl
/-- A disk's image with one byte that is another one. -/
structure RotD (T : Nat → List Nat) (N : Nat) (sf : List Nat) (pos y : Nat) : Prop where
  len : (sf.set pos y).length = N * 64
  same : (loadS (sf.set pos y)).told (pos / 64) = (T (pos / 64)).set (pos % 64) y
  other : ∀ m, m ≠ pos / 64 → (loadS (sf.set pos y)).told m = T m
  lt : ∀ k, ∀ x ∈ (loadS (sf.set pos y)).told k, x < 256
theorem rotD {s : DS} {N pos x b : Nat} (hOk : s.Ok N) (hrow : s.row = []) (hlt : ∀ k, k < N → ∀ x ∈ s.told k, x < 256) (hp : pos < N * 64) (hx : s.sf[pos]? = some x) (hb : b < 256) (hb0 : b ≠ 0) :
    RotD s.told N s.sf pos (x ^^^ b) ∧ (s.told (pos / 64))[pos % 64]? = some x ∧ x ^^^ b < 256 ∧ x < 256 := by
  have e : pos = pos / 64 * 64 + pos % 64 := by omega
  have hT : ∀ k, s.told k = sec s.sf k := fun k => told_sf k hrow
  have hU : ∀ k, (loadS (s.sf.set pos (x ^^^ b))).told k = sec (s.sf.set pos (x ^^^ b)) k := fun k => told_sf k rfl
  have hg : (s.told (pos / 64))[pos % 64]? = some x := by
    rw [hT, sec_get _ _ _ (by omega), ← e]; exact hx
  have hx256 : x < 256 := hlt _ (by omega) x (List.mem_of_getElem? hg)
  have hy : x ^^^ b < 256 := Nat.xor_lt_two_pow (n := 8) hx256 hb
  have h1 : (loadS (s.sf.set pos (x ^^^ b))).told (pos / 64) = (s.told (pos / 64)).set (pos % 64) (x ^^^ b) := by
    have := sec_set_same (y := x ^^^ b) (i := pos % 64) hOk.len (show pos / 64 < N by omega) (by omega)
    rw [← e] at this
    rw [hU, hT]; exact this
  have h2 : ∀ m, m ≠ pos / 64 → (loadS (s.sf.set pos (x ^^^ b))).told m = s.told m := fun m hne => by
    rcases Nat.lt_or_ge m N with hm | hm
    case inr => rw [hU, hT, sec_ge hOk.len hm, sec_ge (n := N) (by rw [List.length_set]; exact hOk.len) hm]
    have := sec_set_other (y := x ^^^ b) (i := pos % 64) (m := pos / 64) hOk.len hm (by omega) hne
    rw [← e] at this
    rw [hU, hT]; exact this
  refine ⟨⟨by rw [List.length_set]; exact hOk.len, h1, h2, fun k z hz => ?_⟩, hg, hy, hx256⟩
  rcases Nat.lt_or_ge k N with hk | hk
  case inr =>
    rw [hU, sec_ge (n := N) (by rw [List.length_set]; exact hOk.len) hk] at hz
    cases hz
  by_cases hk2 : k = pos / 64
  · subst hk2
    rw [h1] at hz
    rcases List.mem_or_eq_of_mem_set hz with hz | hz
    · exact hlt _ hk z hz
    · rw [hz]; exact hy
  · rw [h2 k hk2] at hz
    exact hlt k hk z hz
theorem KW.save_call {w0 w : World} {q p fr n t0 t1 N B : Nat} {F : Nat → Prop} {s : DS} (h : KW w0 w q p fr n t0 t1 N F s B) (hn : 2 ≤ n) (hb : fr + 2 * n ≤ N) {A : Option Addr} {m c : Nat} {g : Option Nat} {pic : List Nat} (hx : ∀ x ∈ pic, x < 256) (hm : m ≤ 64 * (n - 1)) (hA : Ow w0 tU8 1 A m c (pic.map bn) g) (ht : max t0 t1 < 1099511627776) (hB : B < 7000000000000000000) :
    Calls Try.prog 12 #[.pointer (some ⟨q, 0, none⟩), .slice A m c] w (SaveOut w q p fr n t0 t1 N F s pic) :=
  save_any h.st h.di h.fz h.row hn hb A m c pic hx (by have := hA.1; simpa using this) hA.cap.1 hm (hA.sl.below h.fr_ (fun _ _ => id)) (fun b ⟨o, e⟩ hb => by
    have hlt : b < w0.heap.size := by
      rcases hA.2 with ⟨e1, -⟩ | ⟨b', o', cur, e1, e2, -⟩
      · rw [e] at e1; cases e1
      · rw [e] at e1; cases e1; exact hA.lt b e2
    have := h.nF b hb
    omega) h.hq ht (by have := h.wr; omega) (by have := h.sy; omega)
set_option maxHeartbeats 8000000 in
set_option maxRecDepth 20000 in
theorem rot_one (w : World) (oA nA : Option Addr) (on oc nn nc : Nat) (older newer : List Nat) (n0 at0 : Int) (by0 : Nat) (hox : ∀ x ∈ older, x < 256) (hnx : ∀ x ∈ newer, x < 256) (hoc : on ≤ oc) (hnc : nn ≤ nc) (hom : on ≤ 140737488355000) (hnm : nn ≤ 140737488355000) (hO : Sl w 1 oA on (older.map bn)) (hNw : Sl w 1 nA nn (newer.map bn)) (hby : by0 < 256) :
    Calls Try.prog 4 #[.slice oA on oc, .slice nA nn nc, .int .i64 n0, .int .i64 at0, .int .u8 (by0 : Int), .bool false] w fun e w' => e = .returned (.bool true) ∧ Fr (fun _ => False) w w' := by
  obtain ⟨r0, hr0, hpl⟩ : ∃ r : Nat, r < 20 ∧ ∀ W, Calls Try.prog 7 #[.int .i64 n0, .int .i64 20] W fun e w' => e = .returned (.int .i64 (r : Int)) ∧ W = w' := by
    have h0 := Int.emod_nonneg n0 (show (20 : Int) ≠ 0 by omega)
    have h1 := Int.emod_lt_of_pos n0 (show (0 : Int) < 20 by omega)
    obtain ⟨r, hr⟩ : ∃ r : Nat, n0 % 20 = (r : Int) := ⟨(n0 % 20).toNat, by omega⟩
    refine ⟨r, by omega, fun W => ?_⟩
    rw [← hr]
    exact place_any W n0 20 (by omega) (by omega)
  obtain ⟨n, hn⟩ : ∃ n, 2 + r0 = n := ⟨_, rfl⟩
  have n2 : 2 ≤ n ∧ n ≤ 21 := by omega
  have i1 : IntKind.i64.wrap (2 + (r0 : Int)) = (n : Int) := by rw [show 2 + (r0 : Int) = (n : Int) by omega]; exact IntWalk.i64_in _ (by omega)
  clear hr0 hn
  go_enter Try.func4, Try.ntmps4
  go_wp2_with fail
  refine (known_any w).mono ?_
  rintro e w1 ⟨rfl, hf1⟩
  go_wp2_with fail
  refine (hpl w1).mono ?_
  rintro e w' ⟨rfl, rfl⟩
  have hft := fit_any w1 n (by omega) oA on oc older hoc hom (hO.below hf1 (fun _ _ => id))
  clear hpl
  go_wp2_with fail
  refine hft.mono ?_
  rintro e w2 ⟨A0, c0, g0, rfl, hO0, hg0, hf2⟩
  have hft := fit_any w2 n (by omega) nA nn nc newer hnc hnm (hNw.below (hf1.trans hf2) (fun _ _ => id))
  go_wp2_with fail
  refine hft.mono ?_
  rintro e w3 ⟨A1, c1, g1, rfl, hO1, hg1, hf3⟩
  obtain ⟨P0, hP0⟩ : ∃ P, fitN older n = P := ⟨_, rfl⟩
  obtain ⟨P1, hP1⟩ : ∃ P, fitN newer n = P := ⟨_, rfl⟩
  have hx0 : ∀ x ∈ P0, x < 256 := by rw [← hP0]; exact fun x hx => hox x (List.mem_of_mem_take hx)
  have hx1 : ∀ x ∈ P1, x < 256 := by rw [← hP1]; exact fun x hx => hnx x (List.mem_of_mem_take hx)
  have hl0 : P0.length ≤ 64 * (n - 1) := by rw [← hP0]; unfold fitN; rw [List.length_take]; omega
  have hl1 : P1.length ≤ 64 * (n - 1) := by rw [← hP1]; unfold fitN; rw [List.length_take]; omega
  rw [hP0] at hO0 ⊢
  rw [hP1] at hO1 ⊢
  obtain ⟨m0, hm0⟩ : ∃ m, P0.length = m := ⟨_, rfl⟩
  obtain ⟨m1, hm1⟩ : ∃ m, P1.length = m := ⟨_, rfl⟩
  rw [hm0] at hO0 hl0 ⊢
  rw [hm1] at hO1 hl1 ⊢
  have hS0 : Ow w3 tU8 1 A0 m0 c0 (P0.map bn) g0 := hO0.fr hf3 (fun _ _ => id)
  have hS1 : Ow w3 tU8 1 A1 m1 c1 (P1.map bn) g1 := hO1
  have HP := hide (And.intro hx0 (And.intro hx1 (And.intro hl0 (And.intro hl1 (And.intro hm0 (And.intro hm1 (And.intro hS0 (And.intro hS1 ((hf1.trans hf2).trans hf3)))))))))
  clear hft hx0 hx1 hl0 hl1 hm0 hm1 hO0 hO1 hg0 hg1 hf1 hf2 hf3 hP0 hP1 hS0 hS1 hox hnx hoc hnc hom hnm hO hNw
  obtain ⟨N, hN⟩ : ∃ N, 2 * n = N := ⟨_, rfl⟩
  have i2 : IntKind.i64.wrap (2 * (n : Int)) = (N : Int) := by rw [show 2 * (n : Int) = (N : Int) by omega]; exact IntWalk.i64_in _ (by omega)
  go_wp2_with fail
  refine (new_ok w3 N (by omega) (by omega)).mono ?_
  rintro e w4 h4
  obtain ⟨p, F0, rfl, hd⟩ := DN.of h4
  have H4 := hide hd
  clear h4 hd
  go_wp2_with fail
  refine (num12_any _ _).mono ?_
  rintro e w' ⟨rfl, rfl⟩
  have hop : Calls Try.prog 10 #[.pointer (some ⟨p, 0, none⟩), .int .i64 0, .int .i64 (n : Int)] w4 (OpenOut w4 (newS N).told p 0 n) := open_any (fr := 0) (n := n) H4.out.di rfl (by omega) (by omega) newS_lt
  go_wp2_with fail
  refine hop.mono ?_
  rintro e w5 ho
  obtain ⟨q, A, c, g, rfl, hK, hOo, hgo, hf5, hqn⟩ := KW.opened (B := 10) H4.out.di H4.out.new H4.out.fr rfl rfl newS_lt (Nat.zero_le _) (Nat.zero_le _) ho
  rw [blank_stands (by omega), blank_stands (by omega)] at hK
  have HK := hide hK
  clear hop ho hK hOo hgo hf5 hqn H4
  have hsv : Hid (∀ W, Fr (fun _ => False) w5 W → Calls Try.prog 12 #[.pointer (some ⟨q, 0, none⟩), .slice A1 m1 c1] W (SaveOut W q p 0 n 0 0 N F0 (newS N) P1)) := fun W hW => (HK.out.quiet hW).save_call (by omega) (by omega) HP.out.2.1 HP.out.2.2.2.1 HP.out.2.2.2.2.2.2.2.1 (by omega) (by omega)
  go_upto_region 9 with fail
  go_cut [81] from 51 to 81 (fun s81 wx => s81 = .bool false ∧ ∃ F s, KW w3 wx q p 0 n 0 1 N F s 70010 ∧ (∀ k, k < N → s.told k = saveT (newS N).told n 1 P1 k))
  case first =>
    refine region_any (by kernel_rfl) ?_
    intro wd Hwd
    have hfd : Fr (fun _ => False) w5 wd := by rw [Hwd.out]; exact (Fr.refl _ _).drew
    refine run_at 0 6 25 (by decide) (by kernel_rfl) ?_
    simp only [List.drop_zero, List.take_succ_cons, List.take_zero]
    go_wp2_with fail
    refine (num12_any _ _).mono ?_
    rintro e w' ⟨rfl, rfl⟩
    go_wp2_with fail
    refine move_at 6 rfl rfl (by kernel_rfl) (by kernel_rfl) (by kernel_rfl) (fun c a w v h => h) ?_
    refine run_at 7 7 17 (by decide) (by kernel_rfl) ?_
    simp only [List.drop_succ_cons, List.drop_zero, List.take_succ_cons, List.take_zero]
    go_wp2_with fail
    refine move_at 14 rfl rfl (by kernel_rfl) (by kernel_rfl) (by kernel_rfl) (fun c a w v h => h) ?_
    refine run_at 15 6 10 (by decide) (by kernel_rfl) ?_
    simp only [List.drop_succ_cons, List.drop_zero, List.take_succ_cons, List.take_zero]
    go_wp2_with fail
    refine (hsv.out wd hfd).mono ?_
    rintro e w6 ho6
    obtain ⟨rfl, F6, s6, hK6, hT6, -, -⟩ := (HK.out.quiet hfd).saved HP.out.2.1 ho6
    have HK6 := hide (show KW w3 w6 q p 0 n 0 1 N F6 s6 70010 from hK6)
    have HT6 := hide hT6
    clear ho6 hK6 hT6 hsv hfd Hwd
    go_wp2_with fail
    refine (num12_any _ _).mono ?_
    rintro e w' ⟨rfl, rfl⟩
    go_wp2_with fail
    refine move_at 21 rfl rfl (by kernel_rfl) (by kernel_rfl) (by kernel_rfl) (fun c a w v h => h) ?_
    refine move_at 23 rfl rfl (by kernel_rfl) (by kernel_rfl) (by kernel_rfl) (fun c a w v h => h) ?_
    refine move_at 27 rfl rfl (by kernel_rfl) (by kernel_rfl) (by kernel_rfl) (fun c a w v h => h) ?_
    refine run_at 22 1 6 (by decide) (by kernel_rfl) ?_
    simp only [List.drop_succ_cons, List.drop_zero, List.take_succ_cons, List.take_zero]
    have htu : Calls Try.prog 14 #[.pointer (some ⟨q, 0, none⟩)] w6 fun e w' => e = .returned (.agg #[.int .i64 0, .int .i64 1]) ∧ Fr (fun _ => False) w6 w' := turns_any HK6.out.st
    go_wp2_with fail
    refine htu.mono ?_
    rintro e w7 ⟨rfl, hf7⟩
    have HK7 := hide (HK6.out.quiet hf7)
    have htt : Calls Try.prog 15 #[.pointer (some ⟨q, 0, none⟩)] w7 fun e w' => e = .returned (.int .i64 1) ∧ Fr (fun _ => False) w7 w' := turn_any HK7.out.st
    clear htu hf7
    go_wp2_with fail
    refine run_at 24 1 5 (by decide) (by kernel_rfl) ?_
    simp only [List.drop_succ_cons, List.drop_zero, List.take_succ_cons, List.take_zero]
    go_wp2_with fail
    refine htt.mono ?_
    rintro e w8 ⟨rfl, hf8⟩
    have HK8 := hide (HK7.out.quiet hf8)
    have htt : Calls Try.prog 15 #[.pointer (some ⟨q, 0, none⟩)] w8 fun e w' => e = .returned (.int .i64 1) ∧ Fr (fun _ => False) w8 w' := turn_any HK8.out.st
    clear hf8
    go_wp2_with fail
    refine wpAny_take (i := 25) (v := .int .i64 1) rfl (by kernel_rfl) (by kernel_rfl) (by kernel_rfl) (fun c a w h => h) (.inl ⟨by kernel_rfl, fun w => by kernel_rfl⟩) ?_
    refine wpAny_take (i := 26) (v := .int .i64 1) rfl (by kernel_rfl) (by kernel_rfl) (by kernel_rfl) (fun c a w h => h) (.inl ⟨by kernel_rfl, fun w => by kernel_rfl⟩) ?_
    refine run_at 28 3 0 (by decide) (by kernel_rfl) ?_
    simp only [List.drop_succ_cons, List.drop_zero, List.take_succ_cons, List.take_zero]
    go_wp2_with fail
    refine htt.mono ?_
    rintro e w9 ⟨rfl, hf9⟩
    have HK9 := hide (HK8.out.quiet hf9)
    clear htt hf9
    go_wp2_with fail
    refine ⟨by kernel_rfl, ?_⟩
    go_wp2_with fail
    go_meet
    case rel => exact ⟨rfl, F6, s6, HK9.out, by
      intro k hk
      have := HT6.out k hk
      simpa using this⟩
  case rest =>
  obtain ⟨rfl, F9, s9, hK9, hT9⟩ := hcut
  have hfb : 0 + 1 * n = n := by omega
  have hhead : s9.told n = headN 1 P1 := by
    rw [hT9 n (by omega)]
    unfold saveT
    rw [if_pos rfl]
  have hsecs : ∀ i, i < (P1.length + 63) / 64 → s9.told (n + 1 + i) = sectN P1 i := fun i hi => by
    have hlt : n + 1 + i < N := by have := HP.out.2.2.2.1; have := HP.out.2.2.2.2.2.1; omega
    rw [hT9 _ hlt]
    unfold saveT
    rw [if_neg (by omega)]
    unfold laidT
    rw [if_pos (by omega)]
    congr 1; omega
  have hother : standsN s9.told 0 n 0 = ([], 0) := by
    rw [standsN_congr (U := (newS N).told) (fun i hi => ?_) (by omega)]
    · exact blank_stands (by omega)
    · rw [hT9 _ (by omega)]
      unfold saveT
      rw [if_neg (by omega)]
      unfold laidT
      rw [if_neg (by omega)]
  obtain ⟨by', hb'⟩ : ∃ b, (if by0 = 0 then 1 else by0) = b := ⟨_, rfl⟩
  have hb1 : by' ≠ 0 ∧ by' < 256 := by rw [← hb']; split <;> omega
  have H9 := hide (And.intro hK9 (And.intro hhead (And.intro hsecs (And.intro hother hb1))))
  have Hb' := hide hb'
  clear hK9 hT9 hhead hsecs hother hb1 hb' HK
  go_upto_if 83 with fail
  go_cut [4] (fun s4 wx => wx = wc ∧ s4 = .int .u8 (by' : Int))
  case first =>
    by_cases hz : by0 = 0
    · have hb : by' = 1 := by have := Hb'.out; rw [if_pos hz] at this; exact this.symm
      subst hb hz
      go_wp2_with fail
      go_meet
      case rel => exact ⟨rfl, rfl⟩
    · have hb : by' = by0 := by have := Hb'.out; rw [if_neg hz] at this; exact this.symm
      subst hb
      have hz2 : ¬ (by' : Int) = 0 := by omega
      go_wp2_with fail
      go_meet
      case rel => first | exact ⟨rfl, rfl⟩ | exact ⟨trivial, rfl⟩ | trivial
  case rest =>
  obtain ⟨rfl, rfl⟩ := hcut
  have him := image_any H9.out.1.di
  go_wp2_with fail
  refine him.mono ?_
  rintro e wi ⟨IA, Ig, rfl, hOi, hgi, hfi⟩
  have hLen := H9.out.1.di.ok.len
  obtain ⟨L, hL⟩ : ∃ L, s9.sf.length = L := ⟨_, rfl⟩
  rw [hL] at hOi hLen ⊢
  have HKi := hide (H9.out.1.quiet hfi)
  have htt : Calls Try.prog 15 #[.pointer (some ⟨q, 0, none⟩)] wi fun e w' => e = .returned (.int .i64 1) ∧ Fr (fun _ => False) wi w' := turn_any HKi.out.st
  have hm1 : m1 ≤ 64 * (n - 1) := HP.out.2.2.2.1
  obtain ⟨J, hJ⟩ : ∃ J, (m1 + 63) / 64 = J := ⟨_, rfl⟩
  obtain ⟨M, hM⟩ : ∃ M, 64 + J * 64 = M := ⟨_, rfl⟩
  obtain ⟨a, ha⟩ : ∃ a, 64 * n = a := ⟨_, rfl⟩
  obtain ⟨r2, hr2, hpl⟩ : ∃ r : Nat, r < M ∧ ∀ W, Calls Try.prog 7 #[.int .i64 at0, .int .i64 (M : Int)] W fun e w' => e = .returned (.int .i64 (r : Int)) ∧ W = w' := by
    have h0 := Int.emod_nonneg at0 (show (M : Int) ≠ 0 by omega)
    have h1 := Int.emod_lt_of_pos at0 (show (0 : Int) < M by omega)
    obtain ⟨r, hr⟩ : ∃ r : Nat, at0 % (M : Int) = (r : Int) := ⟨(at0 % (M : Int)).toNat, by omega⟩
    refine ⟨r, by omega, fun W => ?_⟩
    rw [← hr]
    exact place_any W at0 M (by omega) (by omega)
  obtain ⟨pos, hpos⟩ : ∃ pos, 1 * a + r2 = pos := ⟨_, rfl⟩
  have hposL : pos < L := by omega
  have iL : IntKind.i64.wrap (128 * (n : Int)) = (L : Int) := by rw [show 128 * (n : Int) = (L : Int) by omega]; exact IntWalk.i64_in _ (by omega)
  have ia : IntKind.i64.wrap (64 * (n : Int)) = (a : Int) := by rw [show 64 * (n : Int) = (a : Int) by omega]; exact IntWalk.i64_in _ (by omega)
  have ia1 : IntKind.i64.wrap (a : Int) = (a : Int) := IntWalk.i64_in _ (by omega)
  have iz0 : IntKind.i64.wrap 0 = 0 := by decide
  have im : IntKind.i64.wrap ((m1 : Int) + 63) = (m1 : Int) + 63 := IntWalk.i64_in _ (by omega)
  have imd : ((m1 : Int) + 63).tdiv 64 = (J : Int) := by rw [Int.tdiv_eq_ediv_of_nonneg (by omega)]; omega
  have iJ : IntKind.i64.wrap (J : Int) = (J : Int) := IntWalk.i64_in _ (by omega)
  have iJ2 : IntKind.i64.wrap ((J : Int) * 64) = (J : Int) * 64 := IntWalk.i64_in _ (by omega)
  have iM : IntKind.i64.wrap (64 + (J : Int) * 64) = (M : Int) := by rw [show 64 + (J : Int) * 64 = (M : Int) by omega]; exact IntWalk.i64_in _ (by omega)
  have ip1 : IntKind.i64.wrap ((a : Int) + (r2 : Int)) = (pos : Int) := by rw [show (a : Int) + (r2 : Int) = (pos : Int) by omega]; exact IntWalk.i64_in _ (by omega)
  have HJ := hide (And.intro hm1 (And.intro hJ (And.intro hM (And.intro ha (And.intro hr2 (And.intro hpos (And.intro hposL (And.intro hLen hL))))))))
  have HOi := hide (And.intro hOi hgi)
  clear him hm1 hJ hM ha hr2 hpos hLen hL hOi hgi hfi
  go_wp2_with fail
  refine htt.mono ?_
  rintro e wt ⟨rfl, hft2⟩
  have HKt := hide (HKi.out.quiet hft2)
  have hOt := HOi.out.1.fr hft2 (fun _ _ => id)
  clear htt hft2
  go_wp2_with fail
  refine (hpl wt).mono ?_
  rintro e w' ⟨rfl, rfl⟩
  obtain ⟨x, hx⟩ : ∃ x, s9.sf[pos]? = some x := ⟨_, List.getElem?_eq_getElem (by rw [HJ.out.2.2.2.2.2.2.2.2]; exact hposL)⟩
  obtain ⟨hRD, hTx, hy, hx256⟩ := rotD (b := by') H9.out.1.di.ok H9.out.1.row H9.out.1.lt (by have := HJ.out.2.2.2.2.2.2.2.1; omega) hx H9.out.2.2.2.2.2 H9.out.2.2.2.2.1
  obtain ⟨bi, oi, rfl, hIg, cx, zx⟩ := hOt.look (j := pos) (u := .int .u8 (x : Int)) (by rw [List.getElem?_map, hx]; rfl)
  have ix : bits .xor .u8 (x : Int) (by' : Int) = ((x ^^^ by' : Nat) : Int) := u8_xor_nat x by' hx256 H9.out.2.2.2.2.2
  obtain ⟨y, hyy⟩ : ∃ y, x ^^^ by' = y := ⟨_, rfl⟩
  rw [hyy] at ix hRD hy
  have hOs := hOt.put (j := pos) (by have := hOt.1; rw [List.length_map] at this; omega) (.int .u8 (y : Int))
  have hsz : wc.heap.size ≤ bi := by have := HOi.out.2 bi hIg; exact this
  have j1 : (0 : Int) ≤ (pos : Int) := by omega
  have j2 : (pos : Int) < (L : Int) := by omega
  have HR := hide (And.intro hRD (And.intro hTx (And.intro hy (And.intro hx256 (And.intro hx (And.intro hyy hIg))))))
  have HOs := hide (And.intro hOs hsz)
  clear hpl hRD hTx hy hx256 hx hyy hOs hOt hsz hIg
  go_wp2_with fail
  have fws : Fr (fun z => z = bi) wt (wt.setCell ⟨bi, oi + pos, none⟩ (.int .u8 (y : Int))) := (Fr.refl _ _).setAt _
  generalize wt.setCell ⟨bi, oi + pos, none⟩ (.int .u8 (y : Int)) = ws at fws HOs ⊢
  obtain ⟨hRD, hTx, hy, hx256, hx, hyy, hIg⟩ := HR.out
  obtain ⟨hOs, hsz⟩ := HOs.out
  rw [show ((s9.sf.map bn).set pos (.int .u8 (y : Int))) = (s9.sf.set pos y).map bn from by rw [List.map_set]; rfl] at hOs
  have HKs := hide (HKt.out.far fws (fun e => by have := H9.out.1.di.lt e; omega) (fun e => by have h3 : q < wc.heap.size := Bl.lt H9.out.1.st; omega) (by have := H9.out.1.fr_.size; omega))
  have hLN : N * 64 = L := HJ.out.2.2.2.2.2.2.2.1.symm
  have hld := load_ok ws (some ⟨bi, oi, none⟩) L N (s9.sf.set pos y) (by omega) hRD.len (by omega) (by omega) (by rw [hLN]; exact hOs.sl)
  rw [hLN] at hld
  clear hRD hTx hy hx256 hx hyy hIg hOs hsz fws
  refine hld.mono ?_
  rintro e wl hl
  obtain ⟨p2, F2, rfl, hd2⟩ := DN.of hl
  have H2 := hide hd2
  clear hld hl hd2
  have hop : Calls Try.prog 10 #[.pointer (some ⟨p2, 0, none⟩), .int .i64 0, .int .i64 (n : Int)] wl (OpenOut wl (loadS (s9.sf.set pos y)).told p2 0 n) := open_any (fr := 0) (n := n) H2.out.di rfl (by omega) (by omega) (fun k _ => HR.out.1.lt k)
  go_wp2_with fail
  refine hop.mono ?_
  rintro e wo ho
  obtain ⟨q2, A2, c2, g2, rfl, hK2, hOo, hgo, hfo, hqn⟩ := KW.opened (B := 10) H2.out.di H2.out.new H2.out.fr rfl rfl (fun k _ => HR.out.1.lt k) (Nat.zero_le _) (Nat.zero_le _) ho
  obtain ⟨U, hU⟩ : ∃ U, (loadS (s9.sf.set pos y)).told = U := ⟨_, rfl⟩
  have hRD := HR.out.1
  have hposs : pos / 64 = n + r2 / 64 ∧ pos % 64 = r2 % 64 := by have := HJ.out.2.2.2.1; have := HJ.out.2.2.2.2.2.1; omega
  have hUs : U (n + r2 / 64) = (s9.told (n + r2 / 64)).set (r2 % 64) y := by have := hRD.same; rw [hU, hposs.1, hposs.2] at this; exact this
  have hUo : ∀ m, m ≠ n + r2 / 64 → U m = s9.told m := fun m hm => by have := hRD.other m (by rw [hposs.1]; exact hm); rw [hU] at this; exact this
  have hUl : ∀ k, ∀ z ∈ U k, z < 256 := fun k => by have := hRD.lt k; rw [hU] at this; exact this
  have hxn : (s9.told (n + r2 / 64))[r2 % 64]? ≠ some y := by
    have h1 := HR.out.2.1
    rw [hposs.1, hposs.2] at h1
    rw [h1]
    intro e
    have e2 : x = y := Option.some.inj e
    have h3 := HR.out.2.2.2.2.2.1
    rw [← e2] at h3
    exact xor_ne H9.out.2.2.2.2.1 h3
  have hplen := HP.out.2.2.2.2.2.1
  have hlaw : (standsN U 0 n 1).2 = 0 := rot_law (T := s9.told) (t := 1) (j := r2 / 64) (i := r2 % 64) (y := y) (p := P1) HP.out.2.1 (by rw [hfb]; exact H9.out.2.1) (fun i hi => by rw [hfb]; exact H9.out.2.2.1 i hi) (by have := HJ.out.1; omega) (by omega) (by rw [hplen]; have := HJ.out.2.1; have := HJ.out.2.2.1; have := HJ.out.2.2.2.2.1; omega) (by omega) HR.out.2.2.1 (by rw [hfb]; exact hxn) U (by rw [hfb]; exact hUs) (fun m hm => hUo m (by rw [hfb] at hm; exact hm)) (fun m z hz _ => hUl _ z hz) (by omega)
  have hoth : standsN U 0 n 0 = ([], 0) := by
    rw [standsN_congr (U := s9.told) (fun i hi => hUo _ (by have := HJ.out.2.2.2.2.1; have := HJ.out.2.1; have := HJ.out.2.2.1; have := HJ.out.1; omega)) (by omega)]
    exact H9.out.2.2.2.1
  have hop2 : openP U 0 n = [] := by unfold openP; rw [hoth, if_neg (by rw [hlaw]; show ¬ 0 < 0; omega)]
  rw [hU] at hK2 hOo ⊢
  rw [hoth, hlaw] at hK2
  rw [hop2] at hOo ⊢
  have HK2 := hide (show KW ws wo q2 p2 0 n 0 0 N F2 _ 10 from hK2)
  have HOo := hide hOo
  have HKo := hide (HKs.out.quiet (H2.out.fr.trans hfo))
  have HF := hide (HKs.out.fr_.trans (H2.out.fr.trans hfo))
  clear hop ho hK2 hOo hgo hfo hqn hRD hposs hUs hUo hUl hxn hlaw hoth hop2 hU
  have hts : Calls Try.prog 14 #[.pointer (some ⟨q2, 0, none⟩)] wo fun e w' => e = .returned (.agg #[.int .i64 0, .int .i64 0]) ∧ Fr (fun _ => False) wo w' := turns_any HK2.out.st
  go_wp2_with fail
  refine (num12_any _ _).mono ?_
  rintro e w' ⟨rfl, rfl⟩
  go_wp2_with fail
  refine (num12_any _ _).mono ?_
  rintro e w' ⟨rfl, rfl⟩
  go_wp2_with fail
  refine hts.mono ?_
  rintro e wa ⟨rfl, hfa⟩
  have htn : Calls Try.prog 15 #[.pointer (some ⟨q, 0, none⟩)] wa fun e w' => e = .returned (.int .i64 1) ∧ Fr (fun _ => False) wa w' := turn_any (HKo.out.quiet hfa).st
  have HFa := hide hfa
  clear hts hfa
  go_wp2_with fail
  refine htn.mono ?_
  rintro e wb ⟨rfl, hfb2⟩
  have HFb := hide hfb2
  have ht2 : Calls Try.prog 15 #[.pointer (some ⟨q2, 0, none⟩)] wb fun e w' => e = .returned (.int .i64 0) ∧ Fr (fun _ => False) wb w' := turn_any ((HK2.out.quiet HFa.out).quiet HFb.out).st
  have hix : ∀ w', (Instr.index 38 (.agg #[.int .i64 0, .int .i64 0]) (.int .i64 1)).run Try.prog w' = .ok (.int .i64 0) w' := fun _ => by kernel_rfl
  clear htn hfb2
  go_wp2_with fail
  refine ht2.mono ?_
  rintro e wd ⟨rfl, hfd⟩
  have HFd := hide (((HP.out.2.2.2.2.2.2.2.2.trans HF.out).trans HFa.out).trans (HFb.out.trans hfd))
  clear ht2 hfd
  go_wp2_with fail
  go_ret
  exact ⟨rfl, HFd.out⟩
end Go.Proofs.Ytchajbiloaiekaa
