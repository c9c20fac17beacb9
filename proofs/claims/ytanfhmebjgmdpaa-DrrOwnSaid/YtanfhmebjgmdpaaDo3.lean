/-
  DrrOwn: the walk.
-/
import Derived.Test.YtanfhmebjgmdpaaDo2
import Derived.Test.YtanfhmebjgmdpaaDr7
import Derived.Deep.CutBlock
namespace Go.Proofs.Ytanfhmebjgmdpaa.Qi
open Go.RowKit
set_option linter.unusedVariables false
attribute [local go_sem ↓] Go.wp_at_zero Go.wp_at_succ

theorem infoInts_ : (Try.prog.info? 30).map (fun i => (i.zero, i.size, i.bytes)) = some (some (.slice none 0 0), 1, 24) := by kernel_rfl
/-- Between two turns. -/
def Tu (w0 w : World) (d L f M : Nat) (xs : List Int) (t : Nat) (AA : Option Addr) (ac : Nat) : Prop :=
  ∃ (p0 p1 p2 q0 q1 q2 : Nat) (g0 g1 g2 h0 h1 h2 : Option Nat) (Ls : List Rec) (ag : Option Nat), Ls.length = 4 * t ∧ OT w0 w d L f M (s3 p0 p1 p2 g0 g1 g2 [] [] (rp xs t)) (s3 q0 q1 q2 h0 h1 h2 [] [] []) Ls (4 * t) AA ac ag
set_option maxHeartbeats 2000000 in
set_option maxRecDepth 100000 in
theorem own_walk (w : World) (XA YA : Option Addr) (nx cx ny cy : Nat) (xs ys : List Int) (hnx : nx = xs.length) (hny : ny = ys.length) (h1 : nx ≤ 30000) (h2 : ny ≤ 30000) (hX : Sl w 1 XA nx (xs.map giv)) (hY : Sl w 1 YA ny (ys.map giv)) :
    Calls Try.prog 5 #[.slice XA nx cx, .slice YA ny cy] w fun e w' => e = .returned (.bool true) ∧ Below w.heap.size w w' := by
  obtain ⟨i0, hi, hz0, hz1, hz2⟩ := info_parts infoInt_
  obtain ⟨j0, hj, hj0, hj1, hj2⟩ := info_parts infoInts_
  have hXS : ∀ w', Fr (fun k => w.heap.size ≤ k) w w' → Sl w' 1 XA nx (xs.map giv) := fun w' h => hX.fr (B := 0) h (fun b ⟨o, e⟩ hb h => by omega)
  have hYS : ∀ w', Fr (fun k => w.heap.size ≤ k) w w' → Sl w' 1 YA ny (ys.map giv) := fun w' h => hY.fr (B := 0) h (fun b ⟨o, e⟩ hb h => by omega)
  have HX := hide hXS
  have HY := hide hYS
  have Hnx := hide hnx
  have Hny := hide hny
  clear hX hY hXS hYS hnx hny
  go_enter Try.func5, Try.ntmps5
  go_wp2_with fail
  refine (Qj.awake_any _).mono ?_
  rintro e w1 ⟨rfl, hf1⟩
  go_wp2_with fail
  refine (New_ok w1 3 65536 8 (by omega) (by omega) (by omega) (by omega) (by omega) (by omega)).mono ?_
  rintro e w2 ⟨d, L, sd, rfl, hm1⟩
  go_wp2_with fail
  refine (New_ok w2 3 65536 8 (by omega) (by omega) (by omega) (by omega) (by omega) (by omega)).mono ?_
  rintro e w3 ⟨f, M, sf, rfl, hm2⟩
  have hOT := OT.init hf1 hm1 hm2
  obtain ⟨p0, p1, p2, g0, g1, g2, rfl⟩ := made_s3 (D := 0) hm1
  obtain ⟨q0, q1, q2, h0', h1', h2', rfl⟩ := made_s3 (D := 0) hm2
  have HT : Hid (Tu w w3 d L f M xs 0 none 0) := ⟨p0, p1, p2, q0, q1, q2, g0, g1, g2, h0', h1', h2', [], none, rfl, hOT⟩
  have b1 : ¬ (30000 : Int) < (nx : Int) := by omega
  have b2 : ¬ (30000 : Int) < (ny : Int) := by omega
  clear hf1 hm1 hm2 hOT
  go_wp2_with fail
  clear b1 b2
  go_loopw [9, 10] (fun v9 v10 wr => ∃ (t m : Nat) (z : Int) (AA : Option Addr) (ac : Nat), v9 = .slice AA m ac ∧ v10 = .int .i64 z ∧ m = 4 * t ∧ z = (t : Int) ∧ t ≤ 2 ∧ Tu w wr d L f M xs t AA ac) (fun _ v _ => 2 - (intOf v).toNat)
  case atStart => exact ⟨0, 0, 0, none, 0, rfl, rfl, rfl, rfl, by omega, HT.out⟩
  case round =>
    obtain ⟨t, m, z, AA, ac, rfl, rfl, hm, hz, ht, hT⟩ := hrel
    clear HT
    by_cases hlt : t < 2
    · subst hm hz
      obtain ⟨p0, p1, p2, q0', q1', q2', g0, g1, g2, h0', h1', h2', Ls, ag, hLs, hT⟩ := hT
      have HT := hide hT
      have i2 : (t : Int) < 2 := by omega
      clear hT
      obtain ⟨wo, rfl⟩ : ∃ z, z = wr := ⟨_, rfl⟩
      have hrl := rp_len xs t
      have htm : t * xs.length ≤ 30000 := by
        have : xs.length ≤ 30000 := by have := Hnx.out; omega
        match t, hlt with
        | 0, _ => omega
        | 1, _ => omega
      have Hrl := hide hrl
      clear hrl
      go_wp2_with fail
      go_loopw [11] (fun v wr => ∃ (i : Nat) (g0 g1 g2 : Option Nat), v = .int .i64 (i : Int) ∧ i ≤ nx ∧ OT w wr d L f M (s3 p0 p1 p2 g0 g1 g2 (pk 1 xs i) (pk 2 xs i) (rp xs t ++ pk 3 xs i)) (s3 q0' q1' q2' h0' h1' h2' [] [] []) Ls (4 * t) AA ac ag) (fun v _ => nx - (intOf v).toNat)
      case atStart => exact ⟨0, g0, g1, g2, rfl, by omega, by simpa [pk] using HT.out⟩
      case round =>
        obtain ⟨i, g0, g1, g2, rfl, hi2, hO⟩ := hrel
        clear HT
        by_cases hil : i < nx
        · obtain ⟨x, hx⟩ : ∃ x, xs[i]? = some x := ⟨_, List.getElem?_eq_getElem (by rw [← Hnx.out]; exact hil)⟩
          have hlx : xs.length ≤ 30000 := by have := Hnx.out; omega
          have hpl := fun c => pk_len (c := c) (xs := xs) (i := i) (by have := Hnx.out; omega)
          have l1 : (pk 1 xs i).length < 65536 := by rw [hpl]; omega
          have l2 : (pk 2 xs i).length < 65536 := by rw [hpl]; omega
          have l3 : (rp xs t ++ pk 3 xs i).length < 65536 := by rw [List.length_append, Hrl.out, hpl]; omega
          obtain ⟨b, o, hXA, cx0⟩ := (HX.out wr hO.fr).at_ (j := i) (u := .int .i64 x) (by rw [List.getElem?_map, hx]; rfl)
          have i0' : (0 : Int) ≤ (i : Int) := by omega
          have i1 : (i : Int) < (nx : Int) := by omega
          have k1 := hO.add0 x l1
          have HO := hide hO
          have Hx := hide hx
          subst hXA
          clear hO hpl l1 hlx hx
          go_wp2_with fail
          refine k1.mono ?_
          rintro e w4 ⟨rfl, g0', hO4⟩
          have hX4 := HX.out w4 hO4.fr
          obtain ⟨b', o', hXA', cx4⟩ := hX4.at_ (j := i) (u := .int .i64 x) (by rw [List.getElem?_map, Hx.out]; rfl)
          cases hXA'
          have k2 := hO4.add1 x l2
          clear hO4 k1 hX4
          go_wp2_with fail
          refine k2.mono ?_
          rintro e w5 ⟨rfl, g1', hO5⟩
          have hX5 := HX.out w5 hO5.fr
          obtain ⟨b', o', hXA', cx5⟩ := hX5.at_ (j := i) (u := .int .i64 x) (by rw [List.getElem?_map, Hx.out]; rfl)
          cases hXA'
          have k3 := hO5.add2 x l3
          clear hO5 k2 hX5
          go_wp2_with fail
          refine k3.mono ?_
          rintro e w6 ⟨rfl, g2', hO6⟩
          have H6 := hide hO6
          clear hO6 k3
          go_wp2_with fail
          refine ⟨⟨i + 1, g0', g1', g2', by go_num, by omega, ?_⟩, by simp [intOf]; omega⟩
          have := H6.out
          rw [List.append_assoc, ← pk_succ Hx.out, ← pk_succ Hx.out, ← pk_succ Hx.out] at this
          exact this
        · obtain rfl : nx = i := by omega
          have HO := hide hO
          clear hO
          obtain ⟨w3', rfl⟩ : ∃ z, z = wr := ⟨_, rfl⟩
          go_wp2_with fail
          go_loopw [12] (fun v wr => ∃ (i : Nat) (h0' : Option Nat), v = .int .i64 (i : Int) ∧ i ≤ ny ∧ OT w wr d L f M (s3 p0 p1 p2 g0 g1 g2 (pk 1 xs nx) (pk 2 xs nx) (rp xs t ++ pk 3 xs nx)) (s3 q0' q1' q2' h0' h1' h2' (pk 1 ys i) [] []) Ls (4 * t) AA ac ag) (fun v _ => ny - (intOf v).toNat)
          case atStart => exact ⟨0, h0', rfl, by omega, by simpa [pk] using HO.out⟩
          case round =>
            obtain ⟨i, h0', rfl, hi3, hO⟩ := hrel
            clear HO
            by_cases hjl : i < ny
            · obtain ⟨y, hy⟩ : ∃ x, ys[i]? = some x := ⟨_, List.getElem?_eq_getElem (by rw [← Hny.out]; exact hjl)⟩
              have hpl := pk_len (c := 1) (xs := ys) (i := i) (by have := Hny.out; omega)
              have l1 : (pk 1 ys i).length < 65536 := by rw [hpl]; omega
              obtain ⟨b, o, hYA, cy0⟩ := (HY.out wr hO.fr).at_ (j := i) (u := .int .i64 y) (by rw [List.getElem?_map, hy]; rfl)
              have i0' : (0 : Int) ≤ (i : Int) := by omega
              have i1 : (i : Int) < (ny : Int) := by omega
              have k1 := hO.addF y l1
              have Hy := hide hy
              subst hYA
              clear hO hpl l1 hy
              go_wp2_with fail
              refine k1.mono ?_
              rintro e w4 ⟨rfl, h0'', hO4⟩
              have H4 := hide hO4
              clear hO4 k1
              go_wp2_with fail
              refine ⟨⟨i + 1, h0'', by go_num, by omega, ?_⟩, by simp [intOf]; omega⟩
              rw [pk_succ Hy.out]; exact H4.out
            · obtain rfl : ny = i := by omega
              have hxl := Hnx.out
              have hyl := Hny.out
              have kd0 := hO.drop0 (by omega) (V := xs) (n := nx) (by rw [pk_len (by omega)]) (by rw [hxl]; exact pk_fst)
              clear hxl hyl
              have HO := hide hO
              clear hO
              go_wp2_with fail
              refine kd0.mono ?_
              rintro e w4 ⟨A4, c4, g4, rfl, hO4, hs4⟩
              clear kd0
              have kd1 := hO4.dropF (by simp; omega) (V := ys) (n := ny) (by rw [pk_len (by have := Hny.out; omega)]) (by rw [Hny.out]; exact pk_fst)
              have H4 := hide (And.intro hO4 hs4)
              clear hO4 hs4
              go_wp2_with fail
              refine kd1.mono ?_
              rintro e w5 ⟨A5, c5, g5, rfl, hO5, hs5⟩
              clear kd1
              have kd2 := hO5.drop1 (by simp; omega) (V := xs) (n := nx) (by rw [pk_len (by have := Hnx.out; omega)]) (by rw [Hnx.out]; exact pk_fst)
              have H5 := hide (And.intro hO5 hs5)
              clear hO5 hs5
              go_wp2_with fail
              refine kd2.mono ?_
              rintro e w6 ⟨A6, c6, g6, rfl, hO6, hs6⟩
              clear kd2
              have kd3 := hO6.drop1 (by simp; omega) (V := []) (n := 0) rfl rfl
              have H6 := hide (And.intro hO6 hs6)
              clear hO6 hs6
              go_wp2_with fail
              refine kd3.mono ?_
              rintro e w7 ⟨A7, c7, g7, rfl, hO7, hs7⟩
              clear kd3
              simp only [List.append_assoc, List.cons_append, List.nil_append] at hO7
              have hRow : ∀ (j : Nat) (r : Rec), [(⟨A4, nx, c4, g4, xs⟩ : Rec), ⟨A5, ny, c5, g5, ys⟩, ⟨A6, nx, c6, g6, xs⟩, ⟨A7, 0, c7, g7, []⟩][j]? = some r → Ow w7 tInt 1 r.A r.n r.c (r.V.map giv) r.g := fun j r hr => (hO7.ow (Ls.length + j) r (by rw [List.getElem?_append_right (by omega), Nat.add_sub_cancel_left]; exact hr)).1
              have sa := (hRow 0 _ rfl).sl
              have sb := (hRow 1 _ rfl).sl
              have sc := (hRow 2 _ rfl).sl
              have H7 := hide hO7
              have kx := HX.out w7 hO7.fr
              have ky := HY.out w7 hO7.fr
              clear hO7 hRow
              have SA := same_int w7 xs A4 XA c4 cx nx Hnx.out (by omega) sa kx
              have SB := hide (fun w' (h : Fr (fun _ => False) w7 w') => same_int w' ys A5 YA c5 cy ny Hny.out (by omega) (sb.below h (fun _ _ => id)) (ky.below h (fun _ _ => id)))
              have SC := hide (fun w' (h : Fr (fun _ => False) w7 w') => same_int w' xs A6 XA c6 cx nx Hnx.out (by omega) (sc.below h (fun _ _ => id)) (kx.below h (fun _ _ => id)))
              clear sa sb sc kx ky
              go_wp2_with fail
              refine SA.mono ?_
              rintro e w8 ⟨rfl, hf8⟩
              go_wp2_with fail
              refine (SB.out _ hf8).mono ?_
              rintro e w9 ⟨rfl, hf9⟩
              go_wp2_with fail
              refine (SC.out _ (hf8.trans hf9)).mono ?_
              rintro e w10 ⟨rfl, hf10⟩
              have H10 := hide (H7.out.quiet ((hf8.trans hf9).trans hf10))
              clear SA SB SC hf8 hf9 hf10
              have hat4 : ∀ (k : Nat) (r : Rec), [(⟨A4, nx, c4, g4, xs⟩ : Rec), ⟨A5, ny, c5, g5, ys⟩, ⟨A6, nx, c6, g6, xs⟩, ⟨A7, 0, c7, g7, []⟩][k]? = some r → (Ls ++ [(⟨A4, nx, c4, g4, xs⟩ : Rec), ⟨A5, ny, c5, g5, ys⟩, ⟨A6, nx, c6, g6, xs⟩, ⟨A7, 0, c7, g7, []⟩])[4 * t + k]? = some r := fun k r hr => by
                rw [← hLs, List.getElem?_append_right (by omega), Nat.add_sub_cancel_left]; exact hr
              have q0 := hide (hat4 0 _ rfl)
              have q1 := hide (hat4 1 _ rfl)
              have q2 := hide (hat4 2 _ rfl)
              have q3 := hide (hat4 3 _ rfl)
              have hLl : (Ls ++ [(⟨A4, nx, c4, g4, xs⟩ : Rec), ⟨A5, ny, c5, g5, ys⟩, ⟨A6, nx, c6, g6, xs⟩, ⟨A7, 0, c7, g7, []⟩]).length = 4 * (t + 1) := by simp; omega
              obtain ⟨LL, hLL⟩ : ∃ LL, (Ls ++ [(⟨A4, nx, c4, g4, xs⟩ : Rec), ⟨A5, ny, c5, g5, ys⟩, ⟨A6, nx, c6, g6, xs⟩, ⟨A7, 0, c7, g7, []⟩]) = LL := ⟨_, rfl⟩
              rw [hLL] at H10 hLl q0 q1 q2 q3
              have HLl := hide hLl
              clear hat4 hLL hLl H7 H6 H5 H4 HO
              have hrow := H10.out.row
              go_wp2_with (at_builtin; refine wpList_append_ow _ rfl _ _ 31 rfl 30 j0 (.slice none 0 0) 1 24 Try.underlying31 hj hj0 hj1 hj2 rfl (by decide) _ _ _ _ _ rfl (hrow.fr ((Fr.refl (fun _ => False) _).alloc _) (fun _ _ => id)) _ _ _ [.slice _ _ _] rfl (sl_one _ _ _) (by intro u hu; simp at hu; subst hu; rfl) (by unfold maxLen; omega) (by omega) ?_)
              intro B1 e1 v1 ag1 hO1 hf1 hg1
              have H11 := hide (OT.push H10.out q0.out ((Fr.refl _ _).alloc _) (by simpa using hO1) hf1 (by simpa using hg1))
              clear hrow hO1 hf1 hg1 H10
              have hrow := H11.out.row
              go_wp2_with (at_builtin; refine wpList_append_ow _ rfl _ _ 31 rfl 30 j0 (.slice none 0 0) 1 24 Try.underlying31 hj hj0 hj1 hj2 rfl (by decide) _ _ _ _ _ rfl (hrow.fr ((Fr.refl (fun _ => False) _).alloc _) (fun _ _ => id)) _ _ _ [.slice _ _ _] rfl (sl_one _ _ _) (by intro u hu; simp at hu; subst hu; rfl) (by unfold maxLen; omega) (by omega) ?_)
              intro B2 e2 v2 ag2 hO2 hf2 hg2
              have H12 := hide (OT.push H11.out q1.out ((Fr.refl _ _).alloc _) (by simpa using hO2) hf2 (by simpa using hg2))
              clear hrow hO2 hf2 hg2 H11
              have hrow := H12.out.row
              go_wp2_with (at_builtin; refine wpList_append_ow _ rfl _ _ 31 rfl 30 j0 (.slice none 0 0) 1 24 Try.underlying31 hj hj0 hj1 hj2 rfl (by decide) _ _ _ _ _ rfl (hrow.fr ((Fr.refl (fun _ => False) _).alloc _) (fun _ _ => id)) _ _ _ [.slice _ _ _] rfl (sl_one _ _ _) (by intro u hu; simp at hu; subst hu; rfl) (by unfold maxLen; omega) (by omega) ?_)
              intro B3 e3 v3 ag3 hO3 hf3 hg3
              have H13 := hide (OT.push H12.out q2.out ((Fr.refl _ _).alloc _) (by simpa using hO3) hf3 (by simpa using hg3))
              clear hrow hO3 hf3 hg3 H12
              have hrow := H13.out.row
              go_wp2_with (at_builtin; refine wpList_append_ow _ rfl _ _ 31 rfl 30 j0 (.slice none 0 0) 1 24 Try.underlying31 hj hj0 hj1 hj2 rfl (by decide) _ _ _ _ _ rfl (hrow.fr ((Fr.refl (fun _ => False) _).alloc _) (fun _ _ => id)) _ _ _ [.slice _ _ _] rfl (sl_one _ _ _) (by intro u hu; simp at hu; subst hu; rfl) (by unfold maxLen; omega) (by omega) ?_)
              intro B4 e4 v4 ag4 hO4 hf4 hg4
              have H14 := hide (OT.push H13.out q3.out ((Fr.refl _ _).alloc _) (by simpa using hO4) hf4 (by simpa using hg4))
              clear hrow hO4 hf4 hg4 H13
              go_wp2_with fail
              have hxl := Hnx.out
              refine ⟨⟨t + 1, _, _, B4, e4, rfl, rfl, by omega, by omega, by omega, p0, p1, p2, q0', q1', q2', g0, g1, g2, h0', h1', h2', LL, ag4, HLl.out, ?_⟩, by simp [intOf]; omega⟩
              have h := H14.out
              rw [hxl] at h
              exact h
    · obtain rfl : m = 8 := by omega
      obtain rfl : z = 2 := by omega
      obtain rfl : t = 2 := by omega
      clear hm hz
      obtain ⟨p0, p1, p2, q0', q1', q2', g0, g1, g2, h0', h1', h2', Ls, ag, hLs, hT⟩ := hT
      have hrpf : (rp xs 2).map Prod.fst = xs ++ xs := by simp only [rp, List.nil_append, List.map_append, pk_fst]
      have hrpl := rp_len xs 2
      have HT := hide hT
      obtain ⟨wb, rfl⟩ : ∃ z, z = wr := ⟨_, rfl⟩
      have hFOb := hT.fo hLs
      have hnb0 : ∀ j, j < 8 → (recAt Ls j).n ≤ 65536 := fun j hj => (hT.ow j _ (recAt_of (by omega))).2.1
      have hgn0 : ∀ j, j < 8 → ∀ b, (recAt Ls j).g = some b → w.heap.size ≤ b := fun j hj => (hT.ow j _ (recAt_of (by omega))).2.2
      have hgt0 : ∀ j, j < 8 → ∀ b, (recAt Ls j).g = some b → ¬ drfoot d L (s3 p0 p1 p2 g0 g1 g2 [] [] (rp xs 2)) b := fun j hj => dr_neO hT.hd (hT.ow j _ (recAt_of (by omega))).1 (.inl rfl)
      obtain ⟨fA, hfA⟩ : ∃ fA, (fun j => (recAt Ls j).A) = fA := ⟨_, rfl⟩
      obtain ⟨fn, hfn⟩ : ∃ fn, (fun j => (recAt Ls j).n) = fn := ⟨_, rfl⟩
      obtain ⟨fc, hfc⟩ : ∃ fc, (fun j => (recAt Ls j).c) = fc := ⟨_, rfl⟩
      obtain ⟨fg, hfg⟩ : ∃ fg, (fun j => (recAt Ls j).g) = fg := ⟨_, rfl⟩
      obtain ⟨V, hV⟩ : ∃ V, (fun j => (recAt Ls j).V) = V := ⟨_, rfl⟩
      rw [hfA, hfn, hfc, hfg, hV] at hFOb
      have hnb : ∀ j, j < 8 → fn j ≤ 65536 := by rw [← hfn]; exact hnb0
      have hgn : ∀ j, j < 8 → ∀ b, fg j = some b → w.heap.size ≤ b := by rw [← hfg]; exact hgn0
      have hgt : ∀ j, j < 8 → ∀ b, fg j = some b → ¬ drfoot d L (s3 p0 p1 p2 g0 g1 g2 [] [] (rp xs 2)) b := by rw [← hfg]; exact hgt0
      obtain ⟨rb, ro, hAA, -⟩ := hFOb.bl.look (rowOf_at (N := 8) (j := 0) (by omega))
      subst hAA
      have HFO := hide hFOb
      have Hfd := hide hT.fd
      have Hgn := hide hgn
      have Hgt := hide hgt
      have Hrf := hide hrpf
      have Hrl := hide hrpl
      clear hT hFOb hnb0 hgn0 hgt0 hfA hfn hfc hfg hV hrpf hrpl hgn hgt hlt
      go_upto_block 6 with fail
      go_cut [21] (fun _ wx => ∃ V, FO 8 wb wx (some ⟨rb, ro, none⟩) ac ag fA fn fc fg V ∧ ∀ j, j < 8 → V j = fullI fn j)
      case first =>
        go_wp2_with fail
        go_loopw [21] (fun v wr => ∃ (i : Nat) (V : Nat → List Int), v = .int .i64 (i : Int) ∧ i ≤ 8 ∧ FO 8 wb wr (some ⟨rb, ro, none⟩) ac ag fA fn fc fg V ∧ Filled fn V i 0) (fun v _ => 8 - (intOf v).toNat)
        case atStart => exact ⟨0, V, rfl, by omega, HFO.out, ⟨fun j hj => absurd hj (by omega), by simp⟩⟩
        case round =>
          obtain ⟨i, V, rfl, hi3, hFO, hV⟩ := hrel
          clear HFO
          by_cases hlt : i < 8
          · have HO := hide hFO
            have HV := hide hV
            have hni := hnb i hlt
            clear hFO hV
            have i1 : (0 : Int) ≤ (i : Int) := by omega
            have i2 : (i : Int) < 8 := by omega
            have i3 : IntKind.i64.wrap (-5000 - (i : Int)) = -5000 - (i : Int) := IntWalk.i64_in _ (by omega)
            obtain ⟨wo, rfl⟩ : ∃ z, z = wr := ⟨_, rfl⟩
            go_wp2_with fail
            go_loopw [22] (fun v wr => ∃ (k : Nat) (V : Nat → List Int), v = .int .i64 (k : Int) ∧ k ≤ fn i ∧ FO 8 wb wr (some ⟨rb, ro, none⟩) ac ag fA fn fc fg V ∧ Filled fn V i k) (fun v _ => fn i - (intOf v).toNat)
            case atStart => exact ⟨0, V, rfl, by omega, HO.out, HV.out⟩
            case round =>
              obtain ⟨k, V, rfl, hk, hFO, hV⟩ := hrel
              clear HO HV
              obtain ⟨rb', ro', e, -, hcell, -⟩ := hFO.bl.look (rowOf_at hlt)
              cases e
              by_cases hkl : k < fn i
              · obtain ⟨u, hu⟩ : ∃ u, ((V i).map giv)[k]? = some u := ⟨_, List.getElem?_eq_getElem (by rw [List.length_map, hFO.len hlt]; exact hkl)⟩
                obtain ⟨b, o, hAi, hgb, hc, hz⟩ := (hFO.ow i hlt).look hu
                have hput := hide (hFO.put hlt hkl hAi (-5000 - (i : Int)))
                have hV2 := hide (hV.step (by rw [hFO.len hlt]; exact hkl))
                rw [hAi] at hcell
                clear hu hFO hV hAi hgb
                have k1 : (0 : Int) ≤ (k : Int) := by omega
                have k2 : (k : Int) < (fn i : Int) := by omega
                go_wp2_with fail
                exact ⟨⟨k + 1, _, by go_num, by omega, hput.out, hV2.out⟩, by simp [intOf]; omega⟩
              · have Hend := hide (hV.done (hFO.len hlt) (by omega))
                have HO := hide hFO
                clear hFO hV
                go_wp2_with fail
                exact ⟨⟨i + 1, V, by go_num, by omega, HO.out, Hend.out⟩, by simp [intOf]; omega⟩
          · obtain rfl : i = 8 := by omega
            have HO := hide hFO
            have HV := hide hV
            clear hFO hV
            go_wp2_with fail
            go_meet
            case rel => exact ⟨V, HO.out, HV.out.1⟩
      case rest =>
      obtain ⟨V2, hFO2, hV2⟩ := hcut
      have hGO := hFO2.go hV2
      have HGO := hide hGO
      clear hFO2 hV2 HFO hGO V
      obtain ⟨w13, rfl⟩ : ∃ z, z = wc := ⟨_, rfl⟩
      go_upto_block 10 with fail
      go_cut [23] (fun v wx => ∃ (Rs : List RSl) (G : Option Addr) (gc : Nat) (gg : Option Nat) (gs : List (Option Addr × Nat × Nat)), v = .slice G 320 gc ∧ GO 8 wb wx (some ⟨rb, ro, none⟩) ac ag fA fn fc fg 8 Rs G gc gg gs)
      case first =>
        go_wp2_with fail
        go_loopw [23, 24] (fun v21 v22 wr => ∃ (i : Nat) (Rs : List RSl) (G : Option Addr) (gc : Nat) (gg : Option Nat) (gs : List (Option Addr × Nat × Nat)), v21 = .slice G (40 * i) gc ∧ v22 = .int .i64 (i : Int) ∧ i ≤ 8 ∧ GO 8 wb wr (some ⟨rb, ro, none⟩) ac ag fA fn fc fg i Rs G gc gg gs ∧ ∀ b, gg = some b → wb.heap.size ≤ b) (fun _ v _ => 8 - (intOf v).toNat)
        case atStart => exact ⟨0, [], none, 0, none, [], rfl, rfl, by omega, HGO.out, fun b e => nomatch e⟩
        case round =>
          obtain ⟨i, Rs, G, gc, gg, gs, rfl, rfl, hi3, hGO, hgn2⟩ := hrel
          clear HGO
          by_cases hlt : i < 8
          · obtain ⟨rb', ro', e, -, hcell, -⟩ := hGO.bl.look (rowOf_at hlt)
            cases e
            have HS := hide (hGO.start hlt hgn2)
            have hni := hnb i hlt
            clear hGO hgn2
            have i1 : (0 : Int) ≤ (i : Int) := by omega
            have i2 : (i : Int) < 8 := by omega
            have i3 : IntKind.i64.wrap (-6000 - (i : Int)) = -6000 - (i : Int) := IntWalk.i64_in _ (by omega)
            obtain ⟨wo, rfl⟩ : ∃ z, z = wr := ⟨_, rfl⟩
            go_wp2_with fail
            go_loopw [23, 25, 26] (fun v21 v23 v24 wr => ∃ (k : Nat) (mA : Option Addr) (mc : Nat) (mg : Option Nat) (Rs : List RSl) (G : Option Addr) (gc : Nat) (gg : Option Nat) (gs : List (Option Addr × Nat × Nat)), v21 = .slice G (40 * i + k) gc ∧ v23 = .slice mA (fn i + k) mc ∧ v24 = .int .i64 (k : Int) ∧ k ≤ 40 ∧ GS 8 wb wr (some ⟨rb, ro, none⟩) ac ag fA fn fc fg i k (40 * i + k) mA mc mg Rs G gc gg gs) (fun _ _ v _ => 40 - (intOf v).toNat)
            case atStart => exact ⟨0, _, _, _, _, _, _, _, _, rfl, rfl, rfl, by omega, HS.out⟩
            case round =>
              clear HS hcell
              obtain ⟨k, mA, mc, mg, Rs, G, gc, gg, gs, rfl, rfl, rfl, hk, hGS⟩ := hrel
              by_cases hkl : k < 40
              · have HGS := hide hGS
                clear hGS
                go_wp2_with (at_builtin; refine wpList_append_tf _ rfl _ _ 30 rfl 3 i0 (.int .i64 0) 8 Try.underlying30 hi hz0 hz1 hz2 rfl _ _ _ _ _ rfl (HGS.out.cur.fr ((Fr.refl (fun _ => False) _).alloc _) (fun _ _ => id)) _ _ _ [.int .i64 (-6000 - (i : Int))] rfl (sl_one _ _ _) (by intro u hu; simp at hu; subst hu; rfl) (by unfold maxLen; omega) (by omega) ?_)
                intro mA2 mc2 w3 mg2 hO3 hf3 hg3 ht3
                have HG2 := hide (HGS.out.grow ((Fr.refl _ _).alloc _) hO3 hf3 (by simpa using hg3) ht3)
                have hrow := HG2.out.row
                rw [HG2.out.len] at hrow
                clear hO3 hf3 hg3 ht3
                go_wp2_with (at_builtin; refine wpList_append_ow _ rfl _ _ 31 rfl 30 j0 (.slice none 0 0) 1 24 Try.underlying31 hj hj0 hj1 hj2 rfl (by decide) _ _ _ _ _ rfl (hrow.fr ((Fr.refl (fun _ => False) _).alloc _) (fun _ _ => id)) _ _ _ [.slice mA2 (fn i + (k + 1)) mc2] rfl (sl_one _ _ _) (by intro u hu; simp at hu; subst hu; rfl) (by unfold maxLen; omega) (by omega) ?_)
                intro G2 gc2 w5 gg2 hO5 hf5 hg5
                have hO5' : Ow w5 tInts 1 G2 (gs.length + 1) gc2 (gs.map slcI ++ [.slice mA2 (fn i + (k + 1)) mc2]) gg2 := by rw [HG2.out.len]; exact hO5
                have HG3 := hide (HG2.out.put hkl List.mem_cons_self ((Fr.refl _ _).alloc _) hO5' hf5 (by simpa using hg5))
                clear hO5 hf5 hg5 hO5' hrow
                go_wp2_with fail
                exact ⟨⟨k + 1, mA2, mc2, mg2, _, G2, gc2, gg2, _, rfl, rfl, by go_num, by omega, HG3.out⟩, by simp [intOf]; omega⟩
              · obtain rfl : k = 40 := by omega
                have HG := hide (GS.stop hGS)
                have hnew := hide hGS.new
                clear hGS
                go_wp2_with fail
                exact ⟨⟨i + 1, _, _, _, _, _, rfl, by go_num, by omega, HG.out, hnew.out⟩, by simp [intOf]; omega⟩
          · obtain rfl : i = 8 := by omega
            have HO := hide hGO
            clear hGO
            go_wp2_with fail
            go_meet
            case rel => exact ⟨_, _, _, _, _, rfl, HO.out⟩
      case rest =>
      obtain ⟨Rs, G, gc, gg, gs, rfl, hGO⟩ := hcut
      have HGO3 := hide hGO
      clear hGO HGO
      obtain ⟨w14, rfl⟩ : ∃ z, z = wc := ⟨_, rfl⟩
      have hD14 : DrrAt w14 d L 0 (s3 p0 p1 p2 g0 g1 g2 [] [] (rp xs 2)) := HT.out.hd.fr HGO3.out.fr (fun b hb ⟨j, hj, e⟩ => Hgt.out j hj b e hb)
      have hF14 : Fr (fun k => w.heap.size ≤ k) w w14 := HT.out.fr.trans (HGO3.out.fr.mono fun b _ ⟨j, hj, e⟩ => Hgn.out j hj b e)
      have HD14 := hide hD14
      have HF14 := hide hF14
      clear hD14 hF14 HT Hgn Hgt
      go_upto_block 14 with fail
      go_cut [27] (fun _ wx => wx = w14)
      case first =>
        go_wp2_with fail
        go_loopw [27] (fun v wr => ∃ j : Nat, v = .int .i64 (j : Int) ∧ j ≤ 320 ∧ wr = w14) (fun v _ => 320 - (intOf v).toNat)
        case atStart => exact ⟨0, rfl, by omega, rfl⟩
        case round =>
          obtain ⟨j, rfl, hj, rfl⟩ := hrel
          by_cases hlt : j < 320
          · obtain ⟨⟨ra, rn, rc⟩, hr⟩ : ∃ r, gs[j]? = some r := ⟨_, List.getElem?_eq_getElem (by have := HGO3.out.len; omega)⟩
            obtain ⟨hrn, hrm⟩ := HGO3.out.gr j _ hr
            obtain ⟨gb, go, rfl, -, d1, -⟩ := HGO3.out.row.look (j := j) (u := .slice ra rn rc) (by rw [List.getElem?_map, hr]; rfl)
            have hSr : Sl wr 1 ra rn ((grownI fn (j / 40) (j % 40 + 1)).map giv) := (HGO3.out.ok _ hrm).1.1
            obtain ⟨i, hi⟩ : ∃ i, j / 40 = i := ⟨_, rfl⟩
            obtain ⟨t, ht⟩ : ∃ t, j % 40 + 1 = t := ⟨_, rfl⟩
            have hq : (j : Int).tdiv 40 = (i : Int) := by rw [← hi]; rfl
            have i3 : i < 8 := by omega
            have ht1 : t ≤ 40 := by omega
            have hSa : Sl wr 1 (fA i) (fn i) ((fullI fn i).map giv) := (HGO3.out.ok _ (HGO3.out.all i i3)).1.1
            obtain ⟨rb', ro', e, -, d2, -⟩ := HGO3.out.bl.look (rowOf_at i3)
            cases e
            rw [hi, ht] at hSr
            rw [hi, ht] at hrn
            have hni := hnb i i3
            have hrn' : rn = fn i + t := hrn
            have Hrn := hide hrn'
            have hrb : rn ≤ 70000 := by omega
            have q1 : IntKind.i64.wrap (i : Int) = (i : Int) := IntWalk.i64_in _ (by omega)
            have q2 : ¬ ((40 : Int) = 0) := by omega
            have j1 : (0 : Int) ≤ (j : Int) := by omega
            have j2 : (j : Int) < 320 := by omega
            clear hr hrn hrn' hrm hi ht
            go_wp2_with fail
            go_loopw [29] (fun v wx => ∃ k : Nat, v = .int .i64 (k : Int) ∧ k ≤ rn ∧ wx = wr) (fun v _ => rn - (intOf v).toNat)
            case atStart => exact ⟨0, rfl, by omega, rfl⟩
            case round =>
              obtain ⟨k, rfl, hk, hwx⟩ := hrel
              subst hwx
              have k1 : (0 : Int) ≤ (k : Int) := by omega
              have e1 : (0 : Int) ≤ (i : Int) := by omega
              have e2 : (i : Int) < 8 := by omega
              by_cases hkl : k < rn
              · have k2 : (k : Int) < (rn : Int) := by omega
                by_cases hki : k < fn i
                · obtain ⟨rb', ro', rfl, d3⟩ := hSr.at_ (get_grown1 fn i t k hki)
                  obtain ⟨fb, fo, hfa, d4⟩ := hSa.at_ (get_full fn i k hki)
                  rw [hfa] at d2
                  have k3 : (k : Int) < (fn i : Int) := by omega
                  have k4 : IntKind.i64.wrap (-5000 - (i : Int)) = -5000 - (i : Int) := IntWalk.i64_in _ (by omega)
                  clear hSr hSa hfa
                  go_wp2_with fail
                  exact ⟨⟨k + 1, by go_num, by omega, trivial⟩, by simp [intOf]; omega⟩
                · obtain ⟨rb', ro', rfl, d3⟩ := hSr.at_ (get_grown2 fn i t k hki (by have := Hrn.out; omega))
                  have k3 : ¬ (k : Int) < (fn i : Int) := by omega
                  have k5 : (fn i : Int) ≤ (k : Int) := by omega
                  have k4 : IntKind.i64.wrap (-6000 - (i : Int)) = -6000 - (i : Int) := IntWalk.i64_in _ (by omega)
                  clear hSr hSa
                  go_wp2_with fail
                  exact ⟨⟨k + 1, by go_num, by omega, trivial⟩, by simp [intOf]; omega⟩
              · obtain rfl : k = rn := by omega
                clear hSr hSa
                go_wp2_with fail
                exact ⟨⟨j + 1, by go_num, by omega, trivial⟩, by simp [intOf]; omega⟩
          · obtain rfl : j = 320 := by omega
            go_wp2_with fail
            go_meet
            case rel => rfl
      case rest =>
      obtain rfl := hcut
      clear HGO3
      have hdr := Drop_ok wc HD14.out rfl 2 ⟨p2, g2, rp xs 2, 0⟩ rfl
      have hdr' : Calls Try.prog 17 #[.pointer (some ⟨d, 0, none⟩), .int .i64 2] wc fun e w' => ∃ A c g', e = .returned (.tuple #[.slice A (nx + nx) c, .int .i64 0]) ∧ Ow w' tInt 1 A (nx + nx) c ((xs ++ xs).map giv) g' ∧ Fr (fun k => w.heap.size ≤ k) w w' := hdr.mono fun e w' ⟨A, c, g', he, hO, _, _, hf⟩ => by
        have e1 : (⟨p2, g2, rp xs 2, 0⟩ : LN X).things.length = nx + nx := by show (rp xs 2).length = _; rw [Hrl.out, Hnx.out]; omega
        rw [e1] at he hO
        rw [tcells_eq] at hO
        have e2 : ((⟨p2, g2, rp xs 2, 0⟩ : LN X).things.map Prod.fst) = xs ++ xs := Hrf.out
        rw [e2] at hO
        exact ⟨A, c, g', he, hO, HF14.out.trans (hf.mono fun x hx hd => Hfd.out x hd)⟩
      have HDR := hide hdr'
      clear hdr hdr' HD14 HF14 Hfd Hrf Hrl
      go_wp2_with fail
      refine HDR.out.mono ?_
      rintro e w15 ⟨A9, c9, g9, rfl, hO9, hF15⟩
      have hX15 := HX.out w15 hF15
      have H9 := hide hO9
      have hg9 := hO9.lt
      have hsz15 := hF15.size
      clear HDR hO9
      go_wp2_with (at_builtin; refine wpList_append_ow _ rfl _ _ 30 rfl 3 i0 (.int .i64 0) 1 8 Try.underlying30 hi hz0 hz1 hz2 rfl (by decide) _ _ _ _ _ rfl (Ow.nil_ _ _ _) _ _ _ _ rfl hX15 (giv_one _) (by unfold maxLen; omega) (by omega) ?_)
      intro A10 c10 w16 g10 hO10 hf10 hg10
      have hO10' : Ow w16 tInt 1 A10 nx c10 (xs.map giv) g10 := by simpa using hO10
      have hF16 : Fr (fun k => w.heap.size ≤ k) w w16 := hF15.trans (hf10.mono fun k hk e => by cases e)
      have hX16 := HX.out w16 hF16
      have hO9 := H9.out.fr hf10 (fun b hb e => by cases e)
      have H9b := hide hO9
      have hgx : ∀ b, g10 = some b → w15.heap.size ≤ b := fun b hb => by
        rcases hg10 with rfl | ⟨b', rfl, h⟩
        · cases hb
        · cases hb; exact h
      clear hO10 hf10 hg10 hX15 H9 hO9
      go_wp2_with (at_builtin; refine wpList_append_ow _ rfl _ _ 30 rfl 3 i0 (.int .i64 0) 1 8 Try.underlying30 hi hz0 hz1 hz2 rfl (by decide) _ _ _ _ _ rfl hO10' _ _ _ _ rfl hX16 (giv_one _) (by unfold maxLen; omega) (by omega) ?_)
      intro A11 c11 w17 g11 hO11 hf11 hg11
      have hO9 := H9b.out.fr hf11 (fun b hb e => by have := hg9 b hb; have := hgx b e.symm; omega)
      rw [← List.map_append] at hO11
      have hF17 : Fr (fun k => w.heap.size ≤ k) w w17 := hF16.trans (hf11.mono fun k hk e => by have := hgx k e.symm; omega)
      have hSM := same_int w17 (xs ++ xs) A9 A11 c9 c11 (nx + nx) (by rw [List.length_append, ← Hnx.out]) (by omega) hO9.sl hO11.sl
      have HF17 := hide hF17
      clear hO9 hO11 hf11 hg11 hF17 hF16 hX16 hO10' H9b
      go_wp2_with fail
      refine hSM.mono ?_
      rintro e w18 ⟨rfl, hf18⟩
      go_wp2_with fail
      go_ret
      exact ⟨rfl, (HF17.out.trans (hf18.weak _)).toBelow (Nat.le_refl _) (fun k hk h => by omega)⟩
#print axioms own_walk
set_option maxHeartbeats 2000000 in
set_option maxRecDepth 100000 in
/-- Lists that are too long are not looked at. -/
theorem own_long (w : World) (XA YA : Option Addr) (nx cx ny cy : Nat) (h : 30000 < nx ∨ 30000 < ny) :
    Calls Try.prog 5 #[.slice XA nx cx, .slice YA ny cy] w fun e w' => e = .returned (.bool true) ∧ Below w.heap.size w w' := by
  by_cases hx : 30000 < nx
  · have b1 : (30000 : Int) < (nx : Int) := by omega
    clear h hx
    go_enter Try.func5, Try.ntmps5
    go_wp2_with fail
    refine (Qj.awake_any _).mono ?_
    rintro e w1 ⟨rfl, hf1⟩
    go_wp2_with fail
    refine (New_ok w1 3 65536 8 (by omega) (by omega) (by omega) (by omega) (by omega) (by omega)).mono ?_
    rintro e w2 ⟨d, L, sd, rfl, hm1⟩
    go_wp2_with fail
    refine (New_ok w2 3 65536 8 (by omega) (by omega) (by omega) (by omega) (by omega) (by omega)).mono ?_
    rintro e w3 ⟨f, M, sf, rfl, hm2⟩
    have HF := hide ((hf1.trans hm1.2.2.2.2.2.2.1).trans hm2.2.2.2.2.2.2.1)
    clear hf1 hm1 hm2
    go_wp2_with fail
    go_ret
    exact ⟨rfl, HF.out.toBelow (Nat.le_refl _) (fun _ _ => id)⟩
  · have b1 : ¬ (30000 : Int) < (nx : Int) := by omega
    have b2 : (30000 : Int) < (ny : Int) := by omega
    clear h hx
    go_enter Try.func5, Try.ntmps5
    go_wp2_with fail
    refine (Qj.awake_any _).mono ?_
    rintro e w1 ⟨rfl, hf1⟩
    go_wp2_with fail
    refine (New_ok w1 3 65536 8 (by omega) (by omega) (by omega) (by omega) (by omega) (by omega)).mono ?_
    rintro e w2 ⟨d, L, sd, rfl, hm1⟩
    go_wp2_with fail
    refine (New_ok w2 3 65536 8 (by omega) (by omega) (by omega) (by omega) (by omega) (by omega)).mono ?_
    rintro e w3 ⟨f, M, sf, rfl, hm2⟩
    have HF := hide ((hf1.trans hm1.2.2.2.2.2.2.1).trans hm2.2.2.2.2.2.2.1)
    clear hf1 hm1 hm2
    go_wp2_with fail
    go_ret
    exact ⟨rfl, HF.out.toBelow (Nat.le_refl _) (fun _ _ => id)⟩
end Go.Proofs.Ytanfhmebjgmdpaa.Qi
