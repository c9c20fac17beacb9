/-
  StillOwn: the walk's head.
-/
import Derived.Test.YtchajbiloaiekaaSo3
import Derived.Test.YtchajbiloaiekaaSr1
import Derived.Test.YtchajbiloaiekaaReg
import Derived.Deep.CutBlock
import Derived.Laws.BitsAllLaws
namespace Go.Proofs.Ytchajbiloaiekaa
open Go.RowKit
set_option linter.unusedVariables false
attribute [local go_sem ↓] Go.wp_at_zero Go.wp_at_succ
theorem saveT_hi {T : Nat → List Nat} {n b t m : Nat} {P : List Nat} (hl : P.length ≤ 64 * (n - 1)) (hn : 2 ≤ n) (h : b + n ≤ m ∨ m < b) : saveT T b t P m = T m := by
  unfold saveT
  rw [if_neg (by omega)]
  unfold laidT
  rw [if_neg (by omega)]
theorem saveT_stands {T U : Nat → List Nat} {fr n k t N : Nat} {P : List Nat} (hl : P.length ≤ 64 * (n - 1)) (hn : 2 ≤ n ∧ n ≤ 70000) (hk : fr + (k + 1) * n ≤ N) (h : ∀ m, m < N → U m = saveT T (fr + k * n) t P m) (h1 : 1 ≤ t) (h2 : t ≤ 1099511627776) (hkt : t % 2 = k) : standsN U fr n k = (P, t) := by
  have e : (k + 1) * n = k * n + n := Nat.succ_mul _ _
  refine standsN_laid ?_ (fun i hi => ?_) h1 h2 hkt hl (by omega)
  · rw [h _ (by omega)]
    unfold saveT
    rw [if_pos rfl]
  · rw [h _ (by omega)]
    unfold saveT
    rw [if_neg (by omega)]
    unfold laidT
    rw [if_pos (by omega)]
    congr 1; omega
theorem one_saved {T : Nat → List Nat} {n N : Nat} {P : List Nat} (hn : 2 ≤ n ∧ n ≤ 70000) (hN : 2 * n ≤ N) (hl : P.length ≤ 64 * (n - 1)) (h : ∀ k, k < N → T k = saveT (newS N).told n 1 P k) : openP T 0 n = P := by
  have e1 : standsN T 0 n 1 = (P, 1) := saveT_stands (N := N) hl hn (by omega) (fun m hm => by rw [h m hm]; congr 1; omega) (by omega) (by omega) rfl
  have e0 : standsN T 0 n 0 = ([], 0) := standsN_blank (by
    rw [h _ (by omega), saveT_hi hl hn.1 (.inr (by omega)), newS_told (by omega)])
  unfold openP
  rw [e0, e1]
  rfl
theorem two_saved {T U : Nat → List Nat} {n N : Nat} {P Q : List Nat} (hn : 2 ≤ n ∧ n ≤ 70000) (hN : 2 * n ≤ N) (hl : P.length ≤ 64 * (n - 1)) (hl2 : Q.length ≤ 64 * (n - 1)) (h : ∀ k, k < N → T k = saveT (newS N).told n 1 P k) (h2 : ∀ k, k < N → U k = saveT T 0 2 Q k) : openP U 0 n = Q := by
  have e0 : standsN U 0 n 0 = (Q, 2) := saveT_stands (N := N) hl2 hn (by omega) (fun m hm => by rw [h2 m hm]; congr 1; omega) (by omega) (by omega) rfl
  have e1 : standsN U 0 n 1 = (P, 1) := by
    have : standsN T 0 n 1 = (P, 1) := saveT_stands (N := N) hl hn (by omega) (fun m hm => by rw [h m hm]; congr 1; omega) (by omega) (by omega) rfl
    rw [← this]
    exact standsN_congr (fun i hi => by rw [h2 _ (by omega), saveT_hi hl2 hn.1 (.inl (by omega))]) (by omega)
  unfold openP
  rw [e0, e1]
  rfl
theorem KW.save_ow {w0 w : World} {q p fr n t0 t1 N B : Nat} {F : Nat → Prop} {s : DS} (h : KW w0 w q p fr n t0 t1 N F s B) (hn : 2 ≤ n) (hb : fr + 2 * n ≤ N) {A : Option Addr} {m c : Nat} {g : Option Nat} {pic : List Nat} (hx : ∀ x ∈ pic, x < 256) (hm : m ≤ 64 * (n - 1)) (hA : Ow w tU8 1 A m c (pic.map bn) g) (hg : ∀ b, g = some b → ¬ F b) (ht : max t0 t1 < 1099511627776) (hB : B < 7000000000000000000) :
    Calls Try.prog 12 #[.pointer (some ⟨q, 0, none⟩), .slice A m c] w (SaveOut w q p fr n t0 t1 N F s pic) :=
  save_any h.st h.di h.fz h.row hn hb A m c pic hx (by have := hA.1; simpa using this) hA.cap.1 hm hA.sl (fun b ⟨o, e⟩ => hg b (hA.at_g e)) h.hq ht (by have := h.wr; omega) (by have := h.sy; omega)
theorem wpList_wanted {P : Program} {ops : Array Oper} {Q : Exit → Act → World → Prop} {a : Act} {w : World} {rest : List Oper} {o : Oper} (hw : Region.wanted o (yielded ops a.tmps) = true) (h : ∀ K : Act → World → Prop, (∀ a w, wpList P ops Q rest a w → K a w) → o.wp P a w K Q) : wpList P ops Q (o :: rest) a w :=
  wpList_step fun K hK => by simp only [hw, if_true]; exact h K hK
/-- append at a step that a guard lets through. -/
theorem wpList_append_owg {P : Program} (w : World) {ops : Array Oper} {rest : List Oper} {o : Oper} {a : Act} {Q : Exit → Act → World → Prop} (hw : Region.wanted o (yielded ops a.tmps) = true) (s x : Operand) (t : TypeId)
    (ho : o.op = .call { callee := .builtin .append, args := #[s, x], argTypes := #[t, t] })
    (e : TypeId) (i : TypeInfo) (z : Value) (size bytes : Nat) (ht : P.underlying t = some (.slice e)) (hi : P.info? e = some i) (hz : i.zero = some z)
    (hsize : i.size = size) (hby : i.bytes = bytes) (hzs : z.cells.size = size) (hsz : 0 < size)
    (A : Option Addr) (n c : Nat) (xs : List Value) (g : Option Nat) (hs : a.eval s = .slice A n c) (hown : Ow w e size A n c xs g)
    (A' : Option Addr) (m c' : Nat) (news : List Value) (hx : a.eval x = .slice A' m c') (hsrc : Sl w size A' m news) (h1 : ∀ u ∈ news, u.oneCell' = true)
    (h63 : n + m ≤ maxLen) (hbytes : (n + m) * bytes ≤ 140737488355328)
    (h : ∀ A2 c2 w2 g2, Ow w2 e size A2 (n + m) c2 (xs ++ news) g2 → Fr (fun k => some k = g) w w2 → (g2 = g ∨ ∃ b, g2 = some b ∧ w.heap.size ≤ b) → wpList P ops Q rest (a.put o.dst (.slice A2 (n + m) c2)) w2) : wpList P ops Q (o :: rest) a w :=
  wpList_wanted hw fun K hK => wp_append_ow w s x t ho e i z size bytes ht hi hz hsize hby hzs hsz A n c xs g hs hown A' m c' news hx hsrc h1 h63 hbytes (fun A2 c2 w2 g2 a b c => hK _ _ (h A2 c2 w2 g2 a b c))
/-- append([]T{}, xs...): new memory. -/
theorem fresh_of {w w2 : World} {cur : Obj} {A : Option Addr} {m c : Nat} {xs : List Value} {g : Option Nat} {e : TypeId} (hA : Ow w2 e 1 A m c xs g) (hf : Fr (fun k => k = w.heap.size) (w.alloc cur) w2) (hg : g = some w.heap.size ∨ ∃ b, g = some b ∧ w.heap.size + 1 ≤ b) :
    Ow w2 e 1 A m c xs g ∧ Fr (fun _ => False) w w2 ∧ ∀ b, g = some b → w.heap.size ≤ b := by
  refine ⟨hA, ((Fr.refl (fun _ => False) w).alloc _).comp hf fun b hb e => by omega, fun b e => ?_⟩
  rcases hg with h | ⟨b', h, hb'⟩
  · rw [h] at e; cases e; exact Nat.le_refl _
  · rw [h] at e; cases e; omega
set_option maxHeartbeats 8000000 in
set_option maxRecDepth 100000 in
theorem own12_walk (w : World) (oA nA : Option Addr) (on oc nn nc : Nat) (one two : List Nat) (n0 : Int) (hox : ∀ x ∈ one, x < 256) (hnx : ∀ x ∈ two, x < 256) (hoc : on ≤ oc) (hnc : nn ≤ nc) (hom : on ≤ 140737488355000) (hnm : nn ≤ 140737488355000) (hO : Sl w 1 oA on (one.map bn)) (hNw : Sl w 1 nA nn (two.map bn)) :
    Calls Try.prog 3 #[.slice oA on oc, .slice nA nn nc, .int .i64 n0] w fun e w' => e = .returned (.bool true) ∧ Fr (fun _ => False) w w' := by
  obtain ⟨r0, hr0, hpl⟩ : ∃ r : Nat, r < 20 ∧ ∀ W, Calls Try.prog 7 #[.int .i64 n0, .int .i64 20] W fun e w' => e = .returned (.int .i64 (r : Int)) ∧ W = w' := by
    have h0 := Int.emod_nonneg n0 (show (20 : Int) ≠ 0 by omega)
    have h1 := Int.emod_lt_of_pos n0 (show (0 : Int) < 20 by omega)
    obtain ⟨r, hr⟩ : ∃ r : Nat, n0 % 20 = (r : Int) := ⟨(n0 % 20).toNat, by omega⟩
    refine ⟨r, by omega, fun W => ?_⟩
    rw [← hr]
    exact place_any W n0 20 (by omega) (by omega)
  obtain ⟨n, hn⟩ : ∃ n, 2 + r0 = n := ⟨_, rfl⟩
  have n2 : 2 ≤ n ∧ n ≤ 21 := by omega
  have i1 : IntKind.i64.wrap (2 + (r0 : Int)) = (n : Int) := by rw [show 2 + (r0 : Int) = (n : Int) by omega]; exact IntWalk.i64_in _ (by omega)
  clear hr0 hn
  go_enter Try.func3, Try.ntmps3
  go_wp2_with fail
  refine (known_any w).mono ?_
  rintro e w1 ⟨rfl, hf1⟩
  go_wp2_with fail
  refine (hpl w1).mono ?_
  rintro e w' ⟨rfl, rfl⟩
  have hft := fit_any w1 n (by omega) oA on oc one hoc hom (hO.below hf1 (fun _ _ => id))
  clear hpl
  go_wp2_with fail
  refine hft.mono ?_
  rintro e w2 ⟨A0, c0, g0, rfl, hO0, hg0, hf2⟩
  have hft := fit_any w2 n (by omega) nA nn nc two hnc hnm (hNw.below (hf1.trans hf2) (fun _ _ => id))
  go_wp2_with fail
  refine hft.mono ?_
  rintro e w3 ⟨A1, c1, g1, rfl, hO1, hg1, hf3⟩
  obtain ⟨P0, hP0⟩ : ∃ P, fitN one n = P := ⟨_, rfl⟩
  obtain ⟨P1, hP1⟩ : ∃ P, fitN two n = P := ⟨_, rfl⟩
  have hx0 : ∀ x ∈ P0, x < 256 := by rw [← hP0]; exact fun x hx => hox x (List.mem_of_mem_take hx)
  have hx1 : ∀ x ∈ P1, x < 256 := by rw [← hP1]; exact fun x hx => hnx x (List.mem_of_mem_take hx)
  have hl0 : P0.length ≤ 64 * (n - 1) := by rw [← hP0]; unfold fitN; rw [List.length_take]; omega
  have hl1 : P1.length ≤ 64 * (n - 1) := by rw [← hP1]; unfold fitN; rw [List.length_take]; omega
  rw [hP0] at hO0 ⊢
  rw [hP1] at hO1 ⊢
  obtain ⟨m0, hm0⟩ : ∃ m, P0.length = m := ⟨_, rfl⟩
  obtain ⟨m1, hm1⟩ : ∃ m, P1.length = m := ⟨_, rfl⟩
  rw [hm0] at hO0 hl0 ⊢
  rw [hm1] at hO1 hl1 ⊢
  have hS0 : Ow w3 tU8 1 A0 m0 c0 (P0.map bn) g0 := hO0.fr hf3 (fun _ _ => id)
  have hS1 : Ow w3 tU8 1 A1 m1 c1 (P1.map bn) g1 := hO1
  have HP := hide (And.intro hx0 (And.intro hx1 (And.intro hl0 (And.intro hl1 (And.intro hm0 (And.intro hm1 (And.intro hS0 (And.intro hS1 ((hf1.trans hf2).trans hf3)))))))))
  clear hft hx0 hx1 hl0 hl1 hm0 hm1 hO0 hO1 hg0 hg1 hf1 hf2 hf3 hP0 hP1 hS0 hS1 hox hnx hoc hnc hom hnm hO hNw
  obtain ⟨N, hN⟩ : ∃ N, 2 * n = N := ⟨_, rfl⟩
  have i2 : IntKind.i64.wrap (2 * (n : Int)) = (N : Int) := by rw [show 2 * (n : Int) = (N : Int) by omega]; exact IntWalk.i64_in _ (by omega)
  go_wp2_with fail
  refine (new_ok w3 N (by omega) (by omega)).mono ?_
  rintro e w4 h4
  obtain ⟨p, F0, rfl, hd⟩ := DN.of h4
  have H4 := hide hd
  clear h4 hd
  have hop : Calls Try.prog 10 #[.pointer (some ⟨p, 0, none⟩), .int .i64 0, .int .i64 (n : Int)] w4 (OpenOut w4 (newS N).told p 0 n) := open_any (fr := 0) (n := n) H4.out.di rfl (by omega) (by omega) newS_lt
  go_wp2_with fail
  refine hop.mono ?_
  rintro e w5 ho
  obtain ⟨q, A, c, g, rfl, hK, hOo, hgo, hf5, hqn⟩ := KW.opened (B := 10) H4.out.di H4.out.new H4.out.fr rfl rfl newS_lt (Nat.zero_le _) (Nat.zero_le _) ho
  rw [blank_stands (by omega), blank_stands (by omega)] at hK
  have HK := hide hK
  clear hop ho hK hOo hgo hf5 hqn H4
  obtain ⟨i0, hi, hz0, hz1, hz2⟩ := info_parts infoU8
  have hf6 : Fr (fun _ => False) w5 (w5.alloc (.cells #[] tU8)) := (Fr.refl _ _).alloc _
  have hE : Ow (w5.alloc (.cells #[] tU8)) tU8 1 (some ⟨w5.heap.size, 0, none⟩) 0 0 [] (some w5.heap.size) := Ow.made w5 tU8 1 0 0 #[] [] rfl (Nat.le_refl _) (Nat.zero_le _) rfl
  have hS : Sl (w5.alloc (.cells #[] tU8)) 1 A0 m0 (P0.map bn) := HP.out.2.2.2.2.2.2.1.sl.below (HK.out.fr_.trans hf6) (fun _ _ => id)
  clear hf6
  have hm0b : m0 ≤ 1280 := by have := HP.out.2.2.1; omega
  have hm1b : m1 ≤ 1280 := by have := HP.out.2.2.2.1; omega
  have hm0c := hm0b
  have Hm := hide (And.intro hm0b hm1b)
  clear hm0b hm1b
  go_wp2_with (at_builtin; refine wpList_append_ow _ rfl _ _ 22 rfl 5 i0 (.int .u8 0) 1 1 Try.underlying22 hi hz0 hz1 hz2 rfl (by decide) _ _ _ _ _ rfl hE _ _ _ _ rfl hS (bn_one _) (by unfold maxLen; omega) (by omega) ?_)
  intro A6 c6 w6 g6 hA hf hg
  obtain ⟨hO6, hF6, hg6⟩ := fresh_of hA hf hg
  clear hE hS hA hf hg
  try rw [Nat.zero_add]
  have HK6 := hide (HK.out.quiet hF6)
  have HO6 := hide hO6
  have HG6 := hide (And.intro hg6 (show ∀ k, F0 k ∨ k = q → k < w5.heap.size from fun k hk => by
    rcases hk with hk | rfl
    · exact HK.out.di.lt hk
    · exact Bl.lt HK.out.st))
  have hsv := HK6.out.save_ow (by omega) (by omega) HP.out.1 HP.out.2.2.1 hO6 (fun b hb hF => by have := hg6 b hb; have := HK.out.di.lt hF; omega) (by omega) (by omega)
  have HZ6 := hide HK.out.fr_.size
  clear hO6 hF6 hg6 HK
  go_wp2_with fail
  refine (num12_any _ _).mono ?_
  rintro e w' ⟨rfl, rfl⟩
  go_wp2_with fail
  refine (num12_any _ _).mono ?_
  rintro e w' ⟨rfl, rfl⟩
  go_wp2_with fail
  refine hsv.mono ?_
  rintro e w7 ho
  obtain ⟨rfl, E7, d7, hV7, hU7, hf7, hs7⟩ := HK6.out.saved HP.out.1 ho
  have HV7 := hide (show KW w3 w7 q p 0 n 0 1 N E7 d7 70010 from hV7)
  have HT7 := hide (show ∀ k, k < N → d7.told k = saveT (newS N).told n 1 P0 k from fun k hk => by have := hU7 k hk; simpa using this)
  have HU7 := hide (one_saved (P := P0) (n := n) (N := N) (by omega) (by omega) (by have := HP.out.2.2.1; have := HP.out.2.2.2.2.1; omega) HT7.out)
  have HO7 := hide (HO6.out.fr hf7 (fun b hb e => by have := HG6.out.1 b hb; have := HG6.out.2 b e; omega))
  have HG7 := hide (show ∀ b, g6 = some b → ¬ E7 b ∧ q ≠ b ∧ w3.heap.size ≤ b from fun b hb => ⟨fun h => by
    have h1 := hs7 b (HO6.out.lt b hb) h
    have := HG6.out.1 b hb; have := HG6.out.2 b (.inl h1); omega, fun e => by have := HG6.out.1 b hb; have := HG6.out.2 b (.inr e.symm); omega, by have := HG6.out.1 b hb; have := HK6.out.fr_.size; have := HZ6.out; omega⟩)
  clear hsv ho hV7 hU7 hf7 hs7 HO6 HG6 HK6
  go_wp2_with fail
  refine (num12_any _ _).mono ?_
  rintro e w' ⟨rfl, rfl⟩
  go_upto_block 0 with fail
  go_cut [13] (fun _ wx => ∃ vs : List Nat, Ow wx tU8 1 A6 m0 c6 (vs.map bn) g6 ∧ Fr (fun x => g6 = some x) w7 wx)
  case first =>
    go_wp2_with fail
    go_loopw [13] (fun v wx => ∃ (k : Nat) (vs : List Nat), v = .int .i64 (k : Int) ∧ k ≤ m0 ∧ (∀ x ∈ vs, x < 256) ∧ Ow wx tU8 1 A6 m0 c6 (vs.map bn) g6 ∧ Fr (fun x => g6 = some x) w7 wx) (fun v _ => m0 - (intOf v).toNat)
    case atStart => exact ⟨0, P0, rfl, Nat.zero_le _, HP.out.1, HO7.out, Fr.refl _ _⟩
    case round =>
      obtain ⟨k, vs, rfl, hk, hvx, hOk, hfk⟩ := hrel
      have hvl : vs.length = m0 := by have := hOk.1; simpa using this
      by_cases hlt : k < m0
      · obtain ⟨x, hx⟩ : ∃ x, vs[k]? = some x := ⟨_, List.getElem?_eq_getElem (by omega)⟩
        have hx256 : x < 256 := hvx x (List.mem_of_getElem? hx)
        obtain ⟨b, o, hAi, hgb, hc, hz⟩ := hOk.look (j := k) (u := .int .u8 (x : Int)) (by rw [List.getElem?_map, hx]; rfl)
        have ix : bits .xor .u8 (x : Int) 90 = ((x ^^^ 90 : Nat) : Int) := u8_xor_nat x 90 hx256 (by decide)
        obtain ⟨y, hyy⟩ : ∃ y, x ^^^ 90 = y := ⟨_, rfl⟩
        have hy : y < 256 := by rw [← hyy]; exact Nat.xor_lt_two_pow (n := 8) hx256 (by decide)
        rw [hyy] at ix
        have HN := hide (show (∀ x ∈ vs.set k y, x < 256) ∧ Fr (fun x => g6 = some x) w7 (wr.setCell ⟨b, o + k, none⟩ (.int .u8 (y : Int))) ∧ Ow (wr.setCell ⟨b, o + k, none⟩ (.int .u8 (y : Int))) tU8 1 A6 m0 c6 ((vs.set k y).map bn) g6 from ⟨fun z hz => by
          rcases List.mem_or_eq_of_mem_set hz with h | rfl
          · exact hvx z h
          · exact hy, hfk.trans (((Fr.refl _ _).setAt _).mono fun z _ e => by have e2 : z = b := e; rw [e2]; exact hgb), by
          rw [List.map_set]
          have h2 := hAi ▸ hOk
          have h3 := h2.put (j := k) (by omega) (.int .u8 (y : Int))
          rw [← hAi] at h3
          exact h3⟩)
        subst hAi
        have i1 : (0 : Int) ≤ (k : Int) := by omega
        have i2 : (k : Int) < (m0 : Int) := by omega
        clear hx hx256 hOk hfk hyy hy hvx hvl hgb
        go_wp2_with fail
        exact ⟨⟨k + 1, _, by go_num, by omega, HN.out.1, HN.out.2.2, HN.out.2.1⟩, by simp [intOf]; omega⟩
      · have HO := hide hOk
        have HF := hide hfk
        have i2 : ¬ (k : Int) < (m0 : Int) := by omega
        clear hOk hfk hvx hvl
        go_wp2_with fail
        go_meet
        case rel => exact ⟨_, HO.out, HF.out⟩
  case rest =>
  obtain ⟨vs, -, hf8⟩ := hcut
  have HK8 := hide (HV7.out.away hf8 (fun b hb => HG7.out b hb))
  clear hf8 HV7 HO7 HG7
  have hop : Calls Try.prog 10 #[.pointer (some ⟨p, 0, none⟩), .int .i64 0, .int .i64 (n : Int)] wc (OpenOut wc d7.told p 0 n) := open_any (fr := 0) (n := n) HK8.out.di HK8.out.fz (by omega) (by omega) HK8.out.lt
  go_wp2_with fail
  refine hop.mono ?_
  rintro e w9 ho
  obtain ⟨q9, A9, c9, g9, rfl, -, hO9, hg9, hf9, -⟩ := KW.opened (B := 70010) HK8.out.di HK8.out.nF HK8.out.fr_ HK8.out.fz HK8.out.row HK8.out.lt HK8.out.wr HK8.out.sy ho
  rw [HU7.out] at hO9 ⊢
  rw [HP.out.2.2.2.2.1] at hO9 ⊢
  have HK9 := hide (HK8.out.quiet hf9)
  have HO9 := hide hO9
  have HG9 := hide hg9
  clear hop ho hO9 hg9
  have hop : Calls Try.prog 10 #[.pointer (some ⟨p, 0, none⟩), .int .i64 0, .int .i64 (n : Int)] w9 (OpenOut w9 d7.told p 0 n) := open_any (fr := 0) (n := n) HK9.out.di HK9.out.fz (by omega) (by omega) HK9.out.lt
  go_wp2_with fail
  refine hop.mono ?_
  rintro e wa ho
  obtain ⟨qa, Aa, ca, ga, rfl, -, hOa, hga, hfa, -⟩ := KW.opened (B := 70010) HK9.out.di HK9.out.nF HK9.out.fr_ HK9.out.fz HK9.out.row HK9.out.lt HK9.out.wr HK9.out.sy ho
  rw [HU7.out] at hOa ⊢
  rw [HP.out.2.2.2.2.1] at hOa ⊢
  have HKa := hide (HK9.out.quiet hfa)
  have HO9a := hide (HO9.out.fr hfa (fun _ _ => id))
  have HOa := hide hOa
  have HGa := hide hga
  have Hz := hide (show wc.heap.size ≤ w9.heap.size ∧ w9.heap.size ≤ wa.heap.size from ⟨hf9.size, hfa.size⟩)
  have sm1 := same12_true wa P0 HP.out.1 A9 A0 m0 m0 c9 c0 HO9a.out.sl (HP.out.2.2.2.2.2.2.1.sl.below HKa.out.fr_ (fun _ _ => id))
  have sm2 := same12_true wa P0 HP.out.1 Aa A0 m0 m0 ca c0 HOa.out.sl (HP.out.2.2.2.2.2.2.1.sl.below HKa.out.fr_ (fun _ _ => id))
  have L0 := hide HO9.out.lt
  clear hop ho hOa hga hf9 hfa HO9
  go_wp2_with fail
  refine sm1.mono ?_
  rintro e w' ⟨rfl, rfl⟩
  clear sm1
  go_wp2_with fail
  refine sm2.mono ?_
  rintro e w' ⟨rfl, rfl⟩
  clear sm2
  have hf8 : Fr (fun _ => False) wa (wa.alloc (.cells #[] tU8)) := (Fr.refl _ _).alloc _
  have hE : Ow (wa.alloc (.cells #[] tU8)) tU8 1 (some ⟨wa.heap.size, 0, none⟩) 0 0 [] (some wa.heap.size) := Ow.made wa tU8 1 0 0 #[] [] rfl (Nat.le_refl _) (Nat.zero_le _) rfl
  have hS : Sl (wa.alloc (.cells #[] tU8)) 1 A1 m1 (P1.map bn) := HP.out.2.2.2.2.2.2.2.1.sl.below (HKa.out.fr_.trans hf8) (fun _ _ => id)
  clear hf8
  have hm1c := Hm.out.2
  go_wp2_with (at_builtin; go_loud (refine wpList_append_owg _ (by kernel_rfl) _ _ 22 rfl 5 i0 (.int .u8 0) 1 1 Try.underlying22 hi hz0 hz1 hz2 rfl (by decide) _ _ _ _ _ rfl hE _ _ _ _ rfl hS (bn_one _) (by unfold maxLen; omega) (by omega) ?_))
  intro A8 c8 w8 g8 hA hf hg
  obtain ⟨hO8, hF8, hg8⟩ := fresh_of hA hf hg
  clear hE hS hA hf hg
  try rw [Nat.zero_add]
  have HK8b := hide (HKa.out.quiet hF8)
  have hsv := HK8b.out.save_ow (by omega) (by omega) HP.out.2.1 HP.out.2.2.2.1 hO8 (fun b hb hF => by have := hg8 b hb; have := HKa.out.di.lt hF; omega) (by omega) (by omega)
  have HOa8 := hide (HOa.out.fr hF8 (fun _ _ => id))
  have HO98 := hide (HO9a.out.fr hF8 (fun _ _ => id))
  have HQ := hide (show ∀ k, E7 k ∨ k = q → k < wc.heap.size from fun k hk => by
    rcases hk with hk | rfl
    · exact HK8.out.di.lt hk
    · exact Bl.lt HK8.out.st)
  have Hy := hide (show wa.heap.size ≤ w8.heap.size ∧ w3.heap.size ≤ wc.heap.size from ⟨hF8.size, HK8.out.fr_.size⟩)
  clear hO8 hF8 hg8 HKa HK9 HK8 HOa HO9a
  go_wp2_with fail
  refine hsv.mono ?_
  rintro e wb ho
  obtain ⟨rfl, Eb, db, hVb, hUb, hfb, hsb⟩ := HK8b.out.saved HP.out.2.1 ho
  have HVb := hide (show KW w3 wb q p 0 n 2 1 N Eb db 140010 from hVb)
  have HUb := hide (two_saved (P := P0) (Q := P1) (n := n) (N := N) (by omega) (by omega) (by have := HP.out.2.2.1; have := HP.out.2.2.2.2.1; omega) (by have := HP.out.2.2.2.1; have := HP.out.2.2.2.2.2.1; omega) HT7.out (fun k hk => by have := hUb k hk; simpa using this))
  have HO9b := hide (HO98.out.fr hfb (fun b hb e => by have := HG9.out b hb; have := HQ.out b e; omega))
  have HOab := hide (HOa8.out.fr hfb (fun b hb e => by have := HGa.out b hb; have := HQ.out b e; have := Hz.out.1; omega))
  have HEb := hide (show (∀ b, g9 = some b → ¬ Eb b) ∧ (∀ b, ga = some b → ¬ Eb b) ∧ (w8.heap.size ≤ wb.heap.size) from ⟨fun b hb h => by
    have h1 := hsb b (HO98.out.lt b hb) h
    have := HG9.out b hb; have := HQ.out b (.inl h1); omega, fun b hb h => by
    have h1 := hsb b (HOa8.out.lt b hb) h
    have := HGa.out b hb; have := HQ.out b (.inl h1); have := Hz.out.1; omega, hfb.size⟩)
  clear hsv ho hVb hUb hfb hsb HK8b HO98 HOa8
  go_wp2_with fail
  refine (num12_any _ _).mono ?_
  rintro e w' ⟨rfl, rfl⟩
  have hop : Calls Try.prog 10 #[.pointer (some ⟨p, 0, none⟩), .int .i64 0, .int .i64 (n : Int)] wb (OpenOut wb db.told p 0 n) := open_any (fr := 0) (n := n) HVb.out.di HVb.out.fz (by omega) (by omega) HVb.out.lt
  go_wp2_with fail
  refine hop.mono ?_
  rintro e wd ho
  obtain ⟨qd, Ad, cd, gd, rfl, -, hOd, hgd, hfd, -⟩ := KW.opened (B := 140010) HVb.out.di HVb.out.nF HVb.out.fr_ HVb.out.fz HVb.out.row HVb.out.lt HVb.out.wr HVb.out.sy ho
  rw [HUb.out] at hOd ⊢
  rw [HP.out.2.2.2.2.2.1] at hOd ⊢
  have HKd := hide (HVb.out.quiet hfd)
  have HO9d := hide (HO9b.out.fr hfd (fun _ _ => id))
  have HOad := hide (HOab.out.fr hfd (fun _ _ => id))
  have HOd := hide hOd
  have HGd := hide hgd
  have sm1 := same12_true wd P0 HP.out.1 A9 A0 m0 m0 c9 c0 HO9d.out.sl (HP.out.2.2.2.2.2.2.1.sl.below HKd.out.fr_ (fun _ _ => id))
  have sm2 := same12_true wd P0 HP.out.1 Aa A0 m0 m0 ca c0 HOad.out.sl (HP.out.2.2.2.2.2.2.1.sl.below HKd.out.fr_ (fun _ _ => id))
  have sm3 := same12_true wd P1 HP.out.2.1 Ad A1 m1 m1 cd c1 HOd.out.sl (HP.out.2.2.2.2.2.2.2.1.sl.below HKd.out.fr_ (fun _ _ => id))
  clear hop ho hOd hgd hfd
  go_wp2_with fail
  refine sm1.mono ?_
  rintro e w' ⟨rfl, rfl⟩
  clear sm1
  go_wp2_with fail
  refine sm2.mono ?_
  rintro e w' ⟨rfl, rfl⟩
  clear sm2
  go_wp2_with fail
  refine sm3.mono ?_
  rintro e w' ⟨rfl, rfl⟩
  clear sm3
  go_upto_region 21 with fail
  go_cut [23] from 148 to 151 (fun v wx => v = .slice (some ⟨wd.heap.size, 0, none⟩) 3 3 ∧ wx = wd.alloc (.cells #[.slice A9 m0 c9, .slice Aa m0 ca, .slice Ad m1 cd] tBs))
  case first =>
    go_wp2_with fail
    go_meet
    case rel => exact ⟨rfl, rfl⟩
  case rest =>
  obtain ⟨rfl, rfl⟩ := hcut
  obtain ⟨fA, rfl, rfl, rfl⟩ : ∃ f : Nat → Option Addr, f 0 = A9 ∧ f 1 = Aa ∧ f 2 = Ad := ⟨fun j => if j = 0 then A9 else if j = 1 then Aa else Ad, rfl, rfl, rfl⟩
  obtain ⟨fc, rfl, rfl, rfl⟩ : ∃ f : Nat → Nat, f 0 = c9 ∧ f 1 = ca ∧ f 2 = cd := ⟨fun j => if j = 0 then c9 else if j = 1 then ca else cd, rfl, rfl, rfl⟩
  obtain ⟨fg, rfl, rfl, rfl⟩ : ∃ f : Nat → Option Nat, f 0 = g9 ∧ f 1 = ga ∧ f 2 = gd := ⟨fun j => if j = 0 then g9 else if j = 1 then ga else gd, rfl, rfl, rfl⟩
  obtain ⟨fn, e0, e1, e2⟩ : ∃ f : Nat → Nat, f 0 = m0 ∧ f 1 = m0 ∧ f 2 = m1 := ⟨fun j => if j = 0 then m0 else if j = 1 then m0 else m1, rfl, rfl, rfl⟩
  obtain ⟨V, v0, v1, v2⟩ : ∃ f : Nat → List Nat, f 0 = P0 ∧ f 1 = P0 ∧ f 2 = P1 := ⟨fun j => if j = 0 then P0 else if j = 1 then P0 else P1, rfl, rfl, rfl⟩
  have z1 := Hz.out
  have z2 := Hy.out
  have z3 := HEb.out.2.2
  have l0 := HO9b.out.lt
  have l1 := HOab.out.lt
  have g0 := HG9.out
  have g1' := HGa.out
  have g2 := HGd.out
  have l0a : ∀ b, fg 0 = some b → b < w9.heap.size := L0.out
  have hgd : ∀ j j' b, j < 3 → j' < 3 → fg j = some b → fg j' = some b → j = j' := fun j j' b hj hj' hb hb' => by
    match j, hj, j', hj' with
    | 0, _, 0, _ => rfl
    | 1, _, 1, _ => rfl
    | 2, _, 2, _ => rfl
    | 0, _, 1, _ => have := l0a b hb; have := g1' b hb'; omega
    | 0, _, 2, _ => have := l0 b hb; have := g2 b hb'; omega
    | 1, _, 0, _ => have := l0a b hb'; have := g1' b hb; omega
    | 1, _, 2, _ => have := l1 b hb; have := g2 b hb'; omega
    | 2, _, 0, _ => have := l0 b hb'; have := g2 b hb; omega
    | 2, _, 1, _ => have := l1 b hb'; have := g2 b hb; omega
  have hA1 : ∀ b o, A1 = some ⟨b, o, none⟩ → b < w3.heap.size := fun b o e => HP.out.2.2.2.2.2.2.2.1.lt b (HP.out.2.2.2.2.2.2.2.1.at_g e)
  have hq := HQ.out q (.inr rfl)
  have hfar : ∀ j, j < 3 → ∀ b, fg j = some b → ¬ Eb b ∧ q ≠ b ∧ w3.heap.size ≤ b ∧ ∀ o, A1 ≠ some ⟨b, o, none⟩ := fun j hj b hb => by
    match j, hj with
    | 0, _ => have := g0 b hb; exact ⟨HEb.out.1 b hb, by omega, by omega, fun o e => by have := hA1 b o e; omega⟩
    | 1, _ => have := g1' b hb; exact ⟨HEb.out.2.1 b hb, by omega, by omega, fun o e => by have := hA1 b o e; omega⟩
    | 2, _ => have := g2 b hb; exact ⟨fun h => by have := HVb.out.di.lt h; omega, by omega, by omega, fun o e => by have := hA1 b o e; omega⟩
  have hal : Fr (fun _ => False) wd (wd.alloc (.cells #[.slice (fA 0) m0 (fc 0), .slice (fA 1) m0 (fc 1), .slice (fA 2) m1 (fc 2)] tBs)) := (Fr.refl _ _).alloc _
  have hFO : BFO (wd.alloc (.cells #[.slice (fA 0) m0 (fc 0), .slice (fA 1) m0 (fc 1), .slice (fA 2) m1 (fc 2)] tBs)) (wd.alloc (.cells #[.slice (fA 0) m0 (fc 0), .slice (fA 1) m0 (fc 1), .slice (fA 2) m1 (fc 2)] tBs)) wd.heap.size fA fn fc fg V := by
    refine ⟨hgd, by rw [e0, e1, e2]; exact Bl.new _ _ _, fun j hj => ?_, Fr.refl _ _⟩
    match j, hj with
    | 0, _ => rw [e0, v0]; exact HO9d.out.fr hal (fun _ _ => id)
    | 1, _ => rw [e1, v1]; exact HOad.out.fr hal (fun _ _ => id)
    | 2, _ => rw [e2, v2]; exact HOd.out.fr hal (fun _ _ => id)
  have hnb : ∀ j, j < 3 → fn j ≤ 1344 := fun j hj => by
    have := Hm.out
    match j, hj with
    | 0, _ => omega
    | 1, _ => omega
    | 2, _ => omega
  have hK := HKd.out.quiet hal
  have hT := HP.out.2.2.2.2.2.2.2.1.sl.below hK.fr_ (fun _ _ => id)
  apply_assumption
  exact own12_tail15 w w3 _ HP.out.2.2.2.2.2.2.2.2 q p n 2 1 N 140010 Eb db P1 A1 m1 c1 g1 n2 (by omega) HP.out.2.1 HP.out.2.2.2.2.2.1 HUb.out hK hT wd.heap.size fA fn fc fg V hnb hfar hFO _ _ _ _ _ _ _ _ _ _ _ _ _ _ _ _ _ _ _ _ _ _ _ _ _ _ _ _ _ _ _ _ _ _ _ _ _ _ _ _ _ _ _ _ _ _ _ _ _ _ _ _ _ _ _ _ _ _ _ _ _ _ _ _ _ _ _ _ _ _ _ _ _ _ _ _ _ _ _ _ _ _ _ _ _ _ _ _ _ _ _ _ _ _ _ _ _ _ _ _ _ _ _ _ _ _ _ _ _ _ _ _ _ _ _ _ _ _ _ _ _ _ _ _ _ _ _ _ _ _ _ _ _ _ _ _ _ _ _ _ _ _ _ _ _ _ _ _ _ _ _ _ _ _ _ _ _ _ _ _ _ _ _ _ _ _ _ _ _ _ _ _ _ _ _ _ _ _ _ _ _ _ _ _ _ _ _ _ _ _ _ _ _ _ _ _ _ _ _ _ _ _ _ _ _ _ _ _ _ _ _ _ _ _ _ _ _ _ _ _ _ _ _ _ _ _ _ _ _ _ _ _ _ _ _ _ _ _ _ _ _ _ _ _ _ _ _ _ _ _ _ _ _ _ _ _ _ _ _ _ _ _ _ _ _ _ _ _ _ 
end Go.Proofs.Ytchajbiloaiekaa
