/-
  Texts merged into one, to keep the claim small: DxU.
-/
import Derived.Test.YtanfhmebjgmdpaaMe42
/-
  DrrScripts: the walk.
-/
namespace Go.Proofs.Ytanfhmebjgmdpaa.Qi
open Go.RowKit Go.Shelf
set_option linter.unusedVariables false
attribute [local go_sem ↓] Go.wp_at_zero Go.wp_at_succ
attribute [local go_sem] Oper.semAt_some
theorem infoPD : (Try.prog.info? 51).map (fun i => (i.zero, i.size, i.bytes)) = some (some (.pointer none), 1, 8) := by kernel_rfl
theorem infoPM : (Try.prog.info? 61).map (fun i => (i.zero, i.size, i.bytes)) = some (some (.pointer none), 1, 8) := by kernel_rfl
theorem func_nilZ (fn : Fn) (x y : Array Value) (W : World) : (binOp .eql 69 (.func fn x y) .nilFunc).run Try.prog W = .ok (.bool false) W := by
  kernel_rfl
/-- What stands while the zero value's round runs. -/
structure ZJ (w0 : World) (nb z bx : Nat) (W : World) : Prop where
  n : Bl W nb 3 #[.int .i64 0]
  zb : Bl W z tZD zcells
  bx : Bl W bx tZP #[.pointer (some ⟨z, 0, none⟩)]
  fr : Fr (fun b => w0.heap.size ≤ b) w0 W
theorem ZJ.own {w0 : World} {nb z bx B : Nat} (hB : w0.heap.size ≤ B) : OwnFrom B (fun (_ : Unit) W => ZJ w0 nb z bx W) := by
  rintro _ W W' row h hg hr
  have hr' : ∀ r, row = some r → ∃ o : Obj, W.heap[r]? = some o ∧ o.isCells = false := fun r e => (hr r e).2
  exact ⟨blOwn h.n hg hr', blOwn h.zb hg hr', blOwn h.bx hg hr', h.fr.trans ((Fr.ofGrown hg).mono fun k _ e => by have := (hr k e.symm).1; omega)⟩
theorem ZJ.turn {w0 : World} {nb z bx B : Nat} {W W' : World} (h : ZJ w0 nb z bx W) (hz : w0.heap.size ≤ z) (hB : z < B) (ht : ZH bx z () W' ∧ Fr (fun x => x = z) W W') : ZJ w0 nb z bx W' ∧ KeepsFrom B W W' := by
  obtain ⟨⟨h1, h2⟩, hf⟩ := ht
  exact ⟨⟨h.n.fr hf (h.n.apart h.zb (by decide)), h2, h1, h.fr.trans (hf.mono fun x _ e => by subst e; exact hz)⟩, hf.keepsFrom fun x e => .inl (by subst e; exact hB)⟩
set_option maxHeartbeats 16000000 in
set_option maxRecDepth 100000 in
theorem scripts_walk (w : World) (AR : Option Addr) (ns cs : Nat) (f0 : Nat → Nat → Value) (sa sb sc : Nat → Int) (hS : Cells w w.heap.size AR ns 3 f0)
    (e0 : ∀ i, i < ns → f0 i 0 = .int .i64 (sa i)) (e1 : ∀ i, i < ns → f0 i 1 = .int .i64 (sb i)) (e2 : ∀ i, i < ns → f0 i 2 = .int .i64 (sc i))
    (A : Option Addr) (n c : Nat) (hn : n * 48 ≤ 140737488355328) (f : Nat → Nat → Value) (kd wh qu co xx mo : Nat → Int) (hs : Cells w w.heap.size A n 6 f)
    (h0 : ∀ i, i < n → f i 0 = .int .i64 (kd i)) (h1 : ∀ i, i < n → f i 1 = .int .i64 (wh i)) (h2 : ∀ i, i < n → f i 2 = .int .i64 (qu i)) (h3 : ∀ i, i < n → f i 3 = .int .i64 (co i)) (h4 : ∀ i, i < n → f i 4 = .int .i64 (xx i)) (h5 : ∀ i, i < n → f i 5 = .int .i64 (mo i)) :
    Calls Try.prog 6 #[.slice AR ns cs, .slice A n c] w fun e w' => e = .returned (.bool true) ∧ Below w.heap.size w w' := by
  obtain ⟨j0, hj, hj0, hj1, hj2⟩ := info_parts infoPD
  obtain ⟨q0, hq, hq0, hq1, hq2⟩ := info_parts infoPM
  obtain ⟨s, hws⟩ : ∃ s, w.heap.size = s := ⟨_, rfl⟩
  have Hws := hide hws
  rw [hws] at hS hs
  refine (callsIn_wide (n := 5)).1 ?_
  refine callsIn_of_wp_marks Try.func6 rfl trivial ?_ rfl
  simp only [Try.ntmps6, List.size_toArray, List.length_cons, List.length_nil, Nat.reduceAdd, Nat.reduceSub, Array.replicate_succ, Array.replicate_zero, List.push_toArray, List.append_toArray, List.nil_append, List.cons_append]
  refine wpIn_wide.2 ?_
  by_cases hbig : 16 < ns
  · clear hws
    go_wp2_with fail
    exact ⟨_, results_tmp rfl _ _ _, rfl, (Fr.refl (fun _ => False) w).toBelow (Nat.le_refl _) (fun _ _ => id)⟩
  have hb16 : ¬ (16 : Int) < (ns : Int) := by omega
  have hP0 : Hid (PQ s w w 0 [] (([] : List (Option EE)).map ptrD) 0 none 0 none (([] : List (Option EE)).map ptrM) 0 none 0 none) :=
    ⟨Ow.nil_ _ _ _, Ow.nil_ _ _ _, (fun b h => by cases h), (fun b h => by cases h), (fun x h => by cases h), ⟨fun a h => by simp at h, fun i j a c h => by simp at h, fun a h => by simp at h⟩, (fun a h => by simp at h), (fun a h => by simp at h), Fr.refl _ _⟩
  clear hws
  go_wp2_with fail
  go_loopw [5, 6, 7] (fun v5 v6 v7 wr => ∃ (k : Nat) (Ls : List (Option EE)) (A1 : Option Addr) (c1 : Nat) (g1 : Option Nat) (A2 : Option Addr) (c2 : Nat) (g2 : Option Nat), v5 = .slice A1 k c1 ∧ v6 = .slice A2 k c2 ∧ v7 = .int .i64 (k : Int) ∧ k ≤ ns ∧ s ≤ wr.heap.size ∧ Ls.length = k ∧ PQ s w wr 0 Ls (Ls.map ptrD) k A1 c1 g1 (Ls.map ptrM) k A2 c2 g2) (fun _ _ i _ => ns - (intOf i).toNat)
  case atStart => exact ⟨0, [], none, 0, none, none, 0, none, rfl, rfl, rfl, Nat.zero_le _, by have := Hws.out; omega, rfl, hP0.out⟩
  case round =>
    obtain ⟨k, Ls, A1, c1, g1, A2, c2, g2, rfl, rfl, rfl, hk, hsr, hm, hP⟩ := hrel
    clear hP0
    have Hm := hide hm
    clear hm
    by_cases hlt : k < ns
    · obtain ⟨b, o, rfl, hbB, hcs⟩ := hS (by omega)
      have hc : ∀ i, i < 3 → wr.cell? ⟨b, o + k * 3 + i, none⟩ = some (f0 k i) := fun i hi =>
        (hP.fr.cell (p := ⟨b, o + k * 3 + i, none⟩) (by rw [Hws.out]; exact hbB) (by simp; omega)).trans (hcs k i hlt hi)
      obtain ⟨za, hza⟩ : ∃ z, sa k = z := ⟨_, rfl⟩
      obtain ⟨zb, hzb⟩ : ∃ z, sb k = z := ⟨_, rfl⟩
      obtain ⟨zc, hzc⟩ : ∃ z, sc k = z := ⟨_, rfl⟩
      have d0 : wr.cell? ⟨b, o + k * 3, none⟩ = some (.int .i64 za) := by rw [← hza, ← e0 k hlt]; exact hc 0 (by omega)
      have d1 : wr.cell? ⟨b, o + k * 3 + 1, none⟩ = some (.int .i64 zb) := by rw [← hzb, ← e1 k hlt]; exact hc 1 (by omega)
      have d2 : wr.cell? ⟨b, o + k * 3 + 2, none⟩ = some (.int .i64 zc) := by rw [← hzc, ← e2 k hlt]; exact hc 2 (by omega)
      have i1 : (0 : Int) ≤ (k : Int) := by omega
      have HP0 := hide hP
      clear hS hs hc hcs e0 e1 e2 h0 h1 h2 h3 h4 h5 hza hzb hzc hP
      go_wp2_with fail
      have bz := Bl.new wr 23 #[.int .i64 za, .int .i64 zb, .int .i64 zc]
      have fz := (Fr.refl (fun _ => False) wr).alloc (.cells #[.int .i64 za, .int .i64 zb, .int .i64 zc] 23)
      obtain ⟨y, hy⟩ : ∃ y, wr.heap.size = y := ⟨_, rfl⟩
      rw [hy] at bz ⊢
      generalize hwz : wr.alloc (.cells #[.int .i64 za, .int .i64 zb, .int .i64 zc] 23) = wz at bz fz ⊢
      have hsz : s ≤ wz.heap.size := by have := fz.size; omega
      have HPz := hide (HP0.out.quiet fz)
      have Hbz := hide bz
      clear hwz d0 d1 d2 HP0 hsr fz hy
      rcases shape_cases za zb zc with hbad | ⟨nn, room, qn, rfl, rfl, rfl, n1, n2, r1, r2, q1, q2⟩
      · have c0 : wz.cell? ⟨y, 0, none⟩ = some (.int .i64 za) := bz.cell' rfl
        have c1' : wz.cell? ⟨y, 1, none⟩ = some (.int .i64 zb) := bz.cell' rfl
        have c2' : wz.cell? ⟨y, 2, none⟩ = some (.int .i64 zc) := bz.cell' rfl
        have Hbad := hide hbad
        clear hbad bz
        refine (New_bad wz za zb zc Hbad.out).mono ?_
        rintro r w' ⟨rfl, rfl⟩
        go_wp2_with fail
        refine (rnewD_bad wz za zb zc Hbad.out).mono ?_
        rintro r w' ⟨rfl, rfl⟩
        have HP := hide HPz.out.none_
        have hsx := hsz
        clear HPz c0 c1' c2' Hbz hsz
        go_wp2_with (first | (at_builtin; go_loud (refine wpList_append_ow _ rfl _ _ 59 rfl 51 j0 (.pointer none) 1 8 Try.underlying59 hj hj0 hj1 hj2 rfl (by decide) _ _ _ _ _ rfl (HP.out.o1.fr (S := fun _ => False) ((Fr.refl _ _).alloc _) (fun _ _ => id)) _ _ _ [.pointer none] rfl (SlD.oneAt (by simp)) (by intro u hu; simp at hu; subst hu; rfl) (by unfold maxLen; omega) (by omega) ?_)) | go_in)
        intro A3 c3 w3 g3 hA3 hf3 hg3
        obtain ⟨P2, hs2⟩ := HP.out.app1 hsx ((Fr.refl _ _).alloc _) hA3 hf3 (hg3.imp_right fun ⟨b, e, h⟩ => ⟨b, e, by first | omega | (simp at h; omega) | simpa using h⟩)
        have HP2 := hide P2
        clear hA3 hf3 hg3 P2 HP
        go_wp2_with (first | (at_builtin; go_loud (refine wpList_append_ow _ rfl _ _ 60 rfl 61 q0 (.pointer none) 1 8 Try.underlying60 hq hq0 hq1 hq2 rfl (by decide) _ _ _ _ _ rfl (HP2.out.o2.fr (S := fun _ => False) ((Fr.refl _ _).alloc _) (fun _ _ => id)) _ _ _ [.pointer none] rfl (SlD.oneAt (by simp)) (by intro u hu; simp at hu; subst hu; rfl) (by unfold maxLen; omega) (by omega) ?_)) | go_in)
        intro A4 c4 w4 g4 hA4 hf4 hg4
        obtain ⟨P4, hs4⟩ := HP2.out.app2 (by omega) ((Fr.refl _ _).alloc _) hA4 hf4 (hg4.imp_right fun ⟨b, e, h⟩ => ⟨b, e, by first | omega | (simp at h; omega) | simpa using h⟩)
        have P5 : PQ s w w4 0 (Ls ++ [none]) ((Ls ++ [none]).map ptrD) (k + 1) A3 c3 g3 ((Ls ++ [none]).map ptrM) (k + 1) A4 c4 g4 := by rw [List.map_append, List.map_append]; exact P4
        have HP5 := hide P5
        have hs5 : s ≤ w4.heap.size := by omega
        clear hA4 hf4 hg4 P4 P5 HP2
        go_wp2_with fail
        exact ⟨⟨k + 1, Ls ++ [none], A3, c3, g3, A4, c4, g4, rfl, rfl, by go_num, hlt, hs5, by rw [List.length_append, Hm.out]; rfl, HP5.out⟩, by simp [intOf]; omega⟩
      · clear bz
        refine (New_ok wz nn room qn n1 n2 r1 r2 q1 q2).mono ?_
        rintro r wA ⟨dd, LL, sd, rfl, hmd⟩
        have bA := Hbz.out.fr hmd.2.2.2.2.2.2.1 id
        have c0 : wA.cell? ⟨y, 0, none⟩ = some (.int .i64 (nn : Int)) := bA.cell' rfl
        have c1' : wA.cell? ⟨y, 1, none⟩ = some (.int .i64 (room : Int)) := bA.cell' rfl
        have c2' : wA.cell? ⟨y, 2, none⟩ = some (.int .i64 (qn : Int)) := bA.cell' rfl
        have Hmd := hide hmd
        clear hmd bA Hbz
        go_wp2_with fail
        refine (rnewD_ok wA nn room qn n1 n2 r1 r2 q1 q2).mono ?_
        rintro r wB ⟨qq, bb, rfl, hD, hfB, hfo⟩
        obtain ⟨hk, hft, hFr⟩ := EOk.fresh (D := 0) Hmd.out (Fr.refl _ _) hD hfB hfo (by omega) (by omega)
        have HP := hide (HPz.out.some_ hsz hFr hk hft)
        have hsx : s ≤ wB.heap.size := by have := hFr.size; omega
        clear HPz c0 c1' c2' Hmd hD hfB hfo hk hft hFr
        go_wp2_with (first | (at_builtin; go_loud (refine wpList_append_ow _ rfl _ _ 59 rfl 51 j0 (.pointer none) 1 8 Try.underlying59 hj hj0 hj1 hj2 rfl (by decide) _ _ _ _ _ rfl (HP.out.o1.fr (S := fun _ => False) ((Fr.refl _ _).alloc _) (fun _ _ => id)) _ _ _ [.pointer (some ⟨dd, 0, none⟩)] rfl (SlD.oneAt (by simp)) (by intro u hu; simp at hu; subst hu; rfl) (by unfold maxLen; omega) (by omega) ?_)) | go_in)
        intro A3 c3 w3 g3 hA3 hf3 hg3
        obtain ⟨P2, hs2⟩ := HP.out.app1 hsx ((Fr.refl _ _).alloc _) hA3 hf3 (hg3.imp_right fun ⟨b, e, h⟩ => ⟨b, e, by first | omega | (simp at h; omega) | simpa using h⟩)
        have HP2 := hide P2
        clear hA3 hf3 hg3 P2 HP
        go_wp2_with (first | (at_builtin; go_loud (refine wpList_append_ow _ rfl _ _ 60 rfl 61 q0 (.pointer none) 1 8 Try.underlying60 hq hq0 hq1 hq2 rfl (by decide) _ _ _ _ _ rfl (HP2.out.o2.fr (S := fun _ => False) ((Fr.refl _ _).alloc _) (fun _ _ => id)) _ _ _ [.pointer (some ⟨qq, 0, none⟩)] rfl (SlD.oneAt (by simp)) (by intro u hu; simp at hu; subst hu; rfl) (by unfold maxLen; omega) (by omega) ?_)) | go_in)
        intro A4 c4 w4 g4 hA4 hf4 hg4
        obtain ⟨P4, hs4⟩ := HP2.out.app2 (by omega) ((Fr.refl _ _).alloc _) hA4 hf4 (hg4.imp_right fun ⟨b, e, h⟩ => ⟨b, e, by first | omega | (simp at h; omega) | simpa using h⟩)
        have P5 : PQ s w w4 0 (Ls ++ [some (⟨dd, LL, sd, qq, bb, DR.fresh nn room qn⟩ : EE)]) ((Ls ++ [some (⟨dd, LL, sd, qq, bb, DR.fresh nn room qn⟩ : EE)]).map ptrD) (k + 1) A3 c3 g3 ((Ls ++ [some (⟨dd, LL, sd, qq, bb, DR.fresh nn room qn⟩ : EE)]).map ptrM) (k + 1) A4 c4 g4 := by rw [List.map_append, List.map_append]; exact P4
        have HP5 := hide P5
        have hs5 : s ≤ w4.heap.size := by omega
        clear hA4 hf4 hg4 P4 P5 HP2
        go_wp2_with fail
        exact ⟨⟨k + 1, Ls ++ [some (⟨dd, LL, sd, qq, bb, DR.fresh nn room qn⟩ : EE)], A3, c3, g3, A4, c4, g4, rfl, rfl, by go_num, hlt, hs5, by rw [List.length_append, Hm.out]; rfl, HP5.out⟩, by simp [intOf]; omega⟩
    · obtain rfl : k = ns := by omega
      have HP := hide hP.none_
      have hsx := hsr
      clear hS e0 e1 e2 hP
      go_wp2_with (first | (at_builtin; go_loud (refine wpList_append_ow _ rfl _ _ 59 rfl 51 j0 (.pointer none) 1 8 Try.underlying59 hj hj0 hj1 hj2 rfl (by decide) _ _ _ _ _ rfl (HP.out.o1.fr (S := fun _ => False) ((Fr.refl _ _).alloc _) (fun _ _ => id)) _ _ _ [.pointer none] rfl (SlD.oneAt (by simp)) (by intro u hu; simp at hu; subst hu; rfl) (by unfold maxLen; omega) (by omega) ?_)) | go_in)
      intro A3 c3 w3 g3 hA3 hf3 hg3
      obtain ⟨P2, hs2⟩ := HP.out.app1 hsx ((Fr.refl _ _).alloc _) hA3 hf3 (hg3.imp_right fun ⟨b, e, h⟩ => ⟨b, e, by first | omega | (simp at h; omega) | simpa using h⟩)
      have HP2 := hide P2
      clear hA3 hf3 hg3 P2 HP
      go_wp2_with (first | (at_builtin; go_loud (refine wpList_append_ow _ rfl _ _ 60 rfl 61 q0 (.pointer none) 1 8 Try.underlying60 hq hq0 hq1 hq2 rfl (by decide) _ _ _ _ _ rfl (HP2.out.o2.fr (S := fun _ => False) ((Fr.refl _ _).alloc _) (fun _ _ => id)) _ _ _ [.pointer none] rfl (SlD.oneAt (by simp)) (by intro u hu; simp at hu; subst hu; rfl) (by unfold maxLen; omega) (by omega) ?_)) | go_in)
      intro A4 c4 w4 g4 hA4 hf4 hg4
      obtain ⟨P4, hs4⟩ := HP2.out.app2 (by omega) ((Fr.refl _ _).alloc _) hA4 hf4 (hg4.imp_right fun ⟨b, e, h⟩ => ⟨b, e, by first | omega | (simp at h; omega) | simpa using h⟩)
      have P5 : PQ s w w4 0 (Ls ++ [none]) ((Ls ++ [none]).map ptrD) (k + 1) A3 c3 g3 ((Ls ++ [none]).map ptrM) (k + 1) A4 c4 g4 := by rw [List.map_append, List.map_append]; exact P4
      have HP5 := hide P5
      have hs5 : s ≤ w4.heap.size := by omega
      clear hA4 hf4 hg4 P4 P5 HP2
      obtain ⟨L0, hL0⟩ : ∃ L0, Ls ++ [(none : Option EE)] = L0 := ⟨_, rfl⟩
      have HlD : Hid ((L0.map ptrD)[k]? = some (.pointer none)) := by show _ = _; rw [← hL0, List.getElem?_map, List.getElem?_append_right (by rw [Hm.out]; exact Nat.le_refl _), Hm.out, Nat.sub_self]; rfl
      have HlM : Hid ((L0.map ptrM)[k]? = some (.pointer none)) := by show _ = _; rw [← hL0, List.getElem?_map, List.getElem?_append_right (by rw [Hm.out]; exact Nat.le_refl _), Hm.out, Nat.sub_self]; rfl
      have HlL : Hid (L0.length = k + 1) := by show _ = _; rw [← hL0, List.length_append, Hm.out]; rfl
      rw [hL0] at HP5
      obtain ⟨M, hM⟩ : ∃ M, k + 1 = M := ⟨_, rfl⟩
      rw [hM] at HP5 HlL ⊢
      have hH : Hid (HS s w L0 M A3 c3 g3 A4 c4 g4 0 w4) := HS.of HP5.out hs5
      have m1 : 1 ≤ M := by omega
      have m2 : M ≤ 17 := by omega
      have HM := hide hM
      clear hL0 HP5 hM hsr hsx hk hlt hb16 hbig hs2 hs4 hs5 Hm
      go_wp2_with fail
      go_loopw [13] (fun i wr => ∃ j : Nat, i = .int .i64 (j : Int) ∧ j ≤ n ∧ HS s w L0 M A3 c3 g3 A4 c4 g4 (1024 * (j : Int)) wr) (fun i _ => n - (intOf i).toNat)
      case atStart => exact ⟨0, rfl, Nat.zero_le _, hH.out⟩
      case round =>
        clear hH
        obtain ⟨j, rfl, hjn, hH⟩ := hrel
        by_cases hlt2 : j < n
        · obtain ⟨b, o, rfl, hbB, hcs⟩ := hs (by omega)
          have hfrH := hH.fr
          have hc : ∀ i, i < 6 → wr.cell? ⟨b, o + j * 6 + i, none⟩ = some (f j i) := fun i hi =>
            (hfrH.cell (p := ⟨b, o + j * 6 + i, none⟩) (by rw [Hws.out]; exact hbB) (by simp; omega)).trans (hcs j i hlt2 hi)
          obtain ⟨kd', hkd⟩ : ∃ z, kd j = z := ⟨_, rfl⟩
          obtain ⟨wh', hwh⟩ : ∃ z, wh j = z := ⟨_, rfl⟩
          obtain ⟨qu', hqu⟩ : ∃ z, qu j = z := ⟨_, rfl⟩
          obtain ⟨co', hco⟩ : ∃ z, co j = z := ⟨_, rfl⟩
          obtain ⟨xx', hxx⟩ : ∃ z, xx j = z := ⟨_, rfl⟩
          obtain ⟨mo', hmo⟩ : ∃ z, mo j = z := ⟨_, rfl⟩
          have d0 : wr.cell? ⟨b, o + j * 6, none⟩ = some (.int .i64 kd') := by rw [← hkd, ← h0 j hlt2]; exact hc 0 (by omega)
          have d1 : wr.cell? ⟨b, o + j * 6 + 1, none⟩ = some (.int .i64 wh') := by rw [← hwh, ← h1 j hlt2]; exact hc 1 (by omega)
          have d2 : wr.cell? ⟨b, o + j * 6 + 2, none⟩ = some (.int .i64 qu') := by rw [← hqu, ← h2 j hlt2]; exact hc 2 (by omega)
          have d3 : wr.cell? ⟨b, o + j * 6 + 3, none⟩ = some (.int .i64 co') := by rw [← hco, ← h3 j hlt2]; exact hc 3 (by omega)
          have d4 : wr.cell? ⟨b, o + j * 6 + 4, none⟩ = some (.int .i64 xx') := by rw [← hxx, ← h4 j hlt2]; exact hc 4 (by omega)
          have d5 : wr.cell? ⟨b, o + j * 6 + 5, none⟩ = some (.int .i64 mo') := by rw [← hmo, ← h5 j hlt2]; exact hc 5 (by omega)
          have i1 : (0 : Int) ≤ (j : Int) := by omega
          have i2 : (j : Int) < (n : Int) := by omega
          have hM0 : (0 : Int) < (M : Int) := by omega
          have g0 := Int.emod_nonneg wh' (show (M : Int) ≠ 0 by omega)
          have g1' := Int.emod_lt_of_pos wh' hM0
          obtain ⟨kk, hkk⟩ : ∃ kk : Nat, wh' % (M : Int) = (kk : Int) := ⟨(wh' % (M : Int)).toNat, by omega⟩
          have hkM : kk < M := by omega
          have i3 : (0 : Int) ≤ (kk : Int) := by omega
          have i4 : (kk : Int) < (M : Int) := by omega
          obtain ⟨v1, hv1⟩ : ∃ v1, (L0.map ptrD)[kk]? = some v1 := ⟨_, List.getElem?_eq_getElem (by rw [List.length_map, HlL.out]; exact hkM)⟩
          obtain ⟨v2, hv2⟩ : ∃ v2, (L0.map ptrM)[kk]? = some v2 := ⟨_, List.getElem?_eq_getElem (by rw [List.length_map, HlL.out]; exact hkM)⟩
          obtain ⟨b1, o1, b2, o2, eA3, eA4, x1, x2⟩ := hH.look hv1 hv2
          have HHj := hide hH
          have Hv1 := hide hv1
          have Hv2 := hide hv2
          have HeA := hide (And.intro eA3 eA4)
          have hrn := round_nat wr wh' M kk m1 (by omega) hkk
          clear hs hcs hc h0 h1 h2 h3 h4 h5 hH hfrH hkd hwh hqu hco hxx hmo hM0 g0 g1' hkk hv1 hv2 eA3 eA4
          obtain ⟨rfl, rfl⟩ := HeA.out
          go_wp2_with fail
          refine hrn.mono ?_
          rintro r w2 ⟨rfl, rfl⟩
          go_wp2_with fail
          refine region_tail 12 (by kernel_rfl) (by kernel_rfl) ?_
          intro wd Hwd hcwd hzwd hswd
          simp only [List.take_succ_cons, List.take_zero, List.drop_succ_cons, List.drop_zero]
          repeat still_step
          refine wpStill_nil ?_
          have hHd := HHj.out.quiet (show Fr (fun _ => False) wr wd by rw [Hwd.out]; exact (Fr.refl _ _).drew)
          have hst := hHd.step Hv1.out Hv2.out (by omega) (by omega) kd' wh' qu' co' xx' mo'
          clear HHj hHd hrn
          go_wp2_with fail
          refine hst.mono ?_
          rintro r w5 ⟨rfl, hH5⟩
          have HH5 := hide hH5
          clear hst hH5
          go_wp2_with fail
          exact ⟨⟨j + 1, by go_num, hlt2, by rw [show 1024 * ((j + 1 : Nat) : Int) = 1024 * (j : Int) + 1024 by omega]; exact HH5.out⟩, by simp [intOf]; omega⟩
        · obtain rfl : j = n := by omega
          have HHn := hide hH
          clear hs h0 h1 h2 h3 h4 h5 hH hjn hlt2
          go_wp2_with fail
          go_loopw [16] (fun i wr => ∃ (q : Nat) (D : Int), i = .int .i64 (q : Int) ∧ q ≤ M ∧ 0 ≤ D ∧ D ≤ 1024 * (j : Int) + 22528 * (q : Int) ∧ HS s w L0 M A3 c3 g3 A4 c4 g4 D wr) (fun i _ => M - (intOf i).toNat)
          case atStart => exact ⟨0, _, rfl, Nat.zero_le _, by omega, by omega, HHn.out⟩
          case round =>
            rename_i w8 _
            clear HHn
            obtain ⟨q, D, rfl, hqM, hD0, hD1, hH⟩ := hrel
            have HHq := hide hH
            clear hH
            by_cases hlt3 : q < M
            · obtain ⟨v1, hv1⟩ : ∃ v1, (L0.map ptrD)[q]? = some v1 := ⟨_, List.getElem?_eq_getElem (by rw [List.length_map, HlL.out]; exact hlt3)⟩
              obtain ⟨v2, hv2⟩ : ∃ v2, (L0.map ptrM)[q]? = some v2 := ⟨_, List.getElem?_eq_getElem (by rw [List.length_map, HlL.out]; exact hlt3)⟩
              have Hv1 := hide hv1
              have Hv2 := hide hv2
              have i1 : (0 : Int) ≤ (q : Int) := by omega
              have i2 : (q : Int) < (M : Int) := by omega
              have HD := hide (And.intro hD0 hD1)
              clear hv1 hv2 hD0 hD1
              go_wp2_with fail
              go_loopw [17] (fun i wr => ∃ (t : Nat) (z D : Int), i = .int .i64 z ∧ z = (t : Int) - 1 ∧ t ≤ 22 ∧ 0 ≤ D ∧ D ≤ 1024 * (j : Int) + 22528 * (q : Int) + 1024 * (t : Int) ∧ HS s w L0 M A3 c3 g3 A4 c4 g4 D wr) (fun i _ => (21 - intOf i).toNat)
              case atStart => exact ⟨0, -1, D, rfl, rfl, by omega, HD.out.1, by have := HD.out.2; omega, HHq.out⟩
              case round =>
                rename_i w9 _
                clear HHq HD
                obtain ⟨t, z, D2, rfl, hz, ht, hD0, hD1, hH⟩ := hrel
                have Hz := hide hz
                by_cases hlt4 : t < 22
                · obtain ⟨b1, o1, b2, o2, eA3, eA4, x1, x2⟩ := hH.look Hv1.out Hv2.out
                  have i5 : z ≤ 20 := by omega
                  have iw : IntKind.i64.wrap (z + 1) = z + 1 := IntWalk.i64_in _ (by omega)
                  have HeA := hide (And.intro eA3 eA4)
                  have HHt := hide hH
                  have HD := hide (And.intro hD0 hD1)
                  clear hz eA3 eA4 hH hD0 hD1
                  obtain ⟨rfl, rfl⟩ := HeA.out
                  go_wp2_with fail
                  refine region_tail 10 (by kernel_rfl) (by kernel_rfl) ?_
                  intro wd Hwd hcwd hzwd hswd
                  simp only [List.take_succ_cons, List.take_zero, List.drop_succ_cons, List.drop_zero]
                  repeat still_step
                  refine wpStill_nil ?_
                  have hHd := HHt.out.quiet (show Fr (fun _ => False) wr wd by rw [Hwd.out]; exact (Fr.refl _ _).drew)
                  have hst := hHd.step Hv1.out Hv2.out HD.out.1 (by have := HD.out.2; omega) 3 0 z 0 0 0
                  clear HHt hHd
                  go_wp2_with fail
                  refine hst.mono ?_
                  rintro r w5 ⟨rfl, hH5⟩
                  have HH5 := hide hH5
                  clear hst hH5
                  go_wp2_with fail
                  exact ⟨⟨t + 1, z + 1, _, rfl, by have := Hz.out; omega, hlt4, by have := HD.out.1; omega, by have := HD.out.2; omega, HH5.out⟩, by simp [intOf]; omega⟩
                · have i5 : ¬ z ≤ 20 := by omega
                  have HHt := hide hH
                  have HD := hide (And.intro hD0 hD1)
                  clear hz hH hD0 hD1
                  go_wp2_with fail
                  exact ⟨⟨q + 1, D2, by go_num, hlt3, HD.out.1, by have := HD.out.2; omega, HHt.out⟩, by simp [intOf]; omega⟩
            · obtain rfl : q = M := by omega
              obtain ⟨b1, o1, b2, o2, eA3, eA4, x1, x2⟩ := HHq.out.look HlD.out HlM.out
              have hfrH := HHq.out.fr
              have hbt := World.block_lt_of_cell? wr _ x1
              have hc1 : Hid (∀ W, Fr (fun b => wr.heap.size ≤ b) wr W → W.cell? ⟨b1, o1 + k, none⟩ = some (.pointer none)) := fun W hW => (hW.cell hbt (by simp; omega)).trans x1
              have Hfr := hide hfrH
              have HeA := hide (And.intro eA3 eA4)
              clear hD0 hD1 hfrH eA3 eA4 x1 x2 hbt HHq HlL HlM HlD
              obtain ⟨rfl, rfl⟩ := HeA.out
              obtain ⟨s2, hs2⟩ : ∃ s2, wr.heap.size = s2 := ⟨_, rfl⟩
              have hz0 : Hid (Bl ((wr.alloc (.cells zcells tZD)).alloc (.cells #[.int .i64 0] 3)) s2 tZD zcells) := (Bl.newAt hs2.symm).alloc _
              have hn0 : Hid (Bl ((wr.alloc (.cells zcells tZD)).alloc (.cells #[.int .i64 0] 3)) (s2 + 1) 3 #[.int .i64 0]) := Bl.newAt (by simp [hs2])
              have hf0 : Hid (Fr (fun _ => False) wr ((wr.alloc (.cells zcells tZD)).alloc (.cells #[.int .i64 0] 3))) := ((Fr.refl _ _).alloc _).alloc _
              go_wp2_with fail
              have HW0 := hide (And.intro hz0.out (And.intro hn0.out hf0.out))
              clear hz0 hn0 hf0
              generalize hwz : (wr.alloc (.cells zcells tZD)).alloc (.cells #[.int .i64 0] 3) = wz at HW0
              have hwz' : (wr.alloc (.cells #[.int .i64 0, .slice none 0 0, .bool false] 67)).alloc (.cells #[.int .i64 0] 3) = wz := hwz
              try rw [hwz']
              clear hwz hwz'
              refine (zround wz).mono ?_
              rintro r w5 ⟨rfl, hw5⟩
              have hfn := func_nilZ
              obtain ⟨bx, hbx⟩ : ∃ bx, wz.heap.size = bx := ⟨_, rfl⟩
              have hFz : Fr (fun _ => False) wz w5 := by rw [← hw5]; exact (Fr.refl _ _).alloc _
              have hbl : Bl w5 bx tZP #[.pointer (some ⟨s2, 0, none⟩)] := by rw [← hw5]; exact Bl.newAt hbx.symm
              have HJ0 : Hid (ZJ wr (s2 + 1) s2 bx w5) := ⟨HW0.out.2.1.fr hFz id, HW0.out.1.fr hFz id, hbl, (HW0.out.2.2.trans hFz).weak _⟩
              have hz5 : s2 + 1 < w5.heap.size := (HJ0.out.n).lt
              try rw [hbx]
              clear hw5 hFz hbl HW0 hbx
              go_wp2_with fail
              clear hfn
              refine (wpIn_wide (n := 5)).1 ?_
              refine wpIn_rangeFunc_K (fun a x a' W => a' = a)
                rfl (by omega) (gf := 50) (lb := #[.pointer (some ⟨bx, 0, none⟩)]) rfl trivial (enters_of Try.func50 (by kernel_rfl) rfl)
                (zround_seq 4 (by omega) bx s2) (fun x => rfl) (fun _ _ => trivial) (fun _ _ _ _ _ _ => trivial)
                (fun (_ : Unit) W => ZJ wr (s2 + 1) s2 bx W) (fun _ _ _ => False) (fun _ _ h => ⟨h.bx, h.zb⟩) (fun _ _ _ h => h.elim) (fun _ _ _ _ h ht => h.turn (by omega) (by omega) ht) (fun _ _ _ _ _ h => h.elim) (ZJ.own (by omega)) (fun _ _ _ _ _ h => h.elim) HJ0.out
                (fun _ _ _ _ _ _ h _ _ => h) (fun _ _ _ _ _ _ h _ => h.elim) (fun _ _ _ _ _ _ _ _ _ h => h.elim) ?done (fun _ _ _ _ _ _ h _ => h.elim)
              case done =>
                intro DD r W hDD _ hJ hW
                have HJ := hide hJ
                have HW := hide hW
                have x1 : W.cell? ⟨b1, o1 + k, none⟩ = some (.pointer none) := hc1.out W HJ.out.fr
                have y0 : W.cell? ⟨s2 + 1, 0, none⟩ = some (.int .i64 0) := HJ.out.n.cell' rfl
                have i1 : IntKind.i64.wrap ((q : Int) - 1) = (k : Int) := by have := HM.out; rw [show (q : Int) - 1 = (k : Int) by omega]; exact IntWalk.i64_in _ (by omega)
                have i2 : (0 : Int) ≤ (k : Int) := by omega
                have i3 : (k : Int) < (q : Int) := by have := HM.out; omega
                clear hJ hW HJ0
                go_wp2_with fail
                refine (Add_none W _ _ _).mono ?_
                rintro r w9 ⟨rfl, rfl⟩
                go_wp2_with fail
                refine (zadd HJ.out.zb _ ⟨_, rfl⟩).mono ?_
                rintro r w9 ⟨rfl, hf9⟩
                have y9 : w9.cell? ⟨s2 + 1, 0, none⟩ = some (.int .i64 0) := (HJ.out.n.fr hf9 id).cell' rfl
                have hW9 : w9.heap[DD]? = some (.deferred (some [])) := (hf9.block DD (Array.getElem?_eq_some_iff.1 HW.out).1 id).trans HW.out
                have HW9 := hide hW9
                have Hf9 := hide hf9
                clear hW9 hf9
                go_wp2_with fail
                refine (zlen (HJ.out.zb.fr Hf9.out id)).mono ?_
                rintro r w10 ⟨rfl, rfl⟩
                go_wp2_with fail
                refine ⟨by simp, .inl ⟨_, _, rfl, run_takeDeferred HW9.out, ?_⟩⟩
                refine ⟨_, results_tmp rfl _ _ _, rfl, ?_⟩
                have hs0 := Hws.out
                have hsw := Hfr.out.size
                have hF1 : Fr (fun x => s ≤ x) wr w9 := (HJ.out.fr.mono fun x _ e => by omega).trans (Hf9.out.weak _)
                have hF2 : Fr (fun x => s ≤ x) w9 (w9.putObj DD (.deferred none)) := (Fr.ofGrown (grownBy_putObj' w9 DD _)).mono fun x _ e => by cases e; omega
                exact ((Hfr.out.trans hF1).trans hF2).toBelow (Nat.le_refl _) (fun x hx => by omega)
end Go.Proofs.Ytanfhmebjgmdpaa.Qi
