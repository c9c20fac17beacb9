/-
  Texts merged into one, to keep the claim small: Dx5.
-/
import Derived.Test.YtanfhmebjgmdpaaMe10
import Derived.Deep.RegionLaw
/-
  bazaarref16.Drr: Drop, Add.
-/
namespace Go.Proofs.Ytanfhmebjgmdpaa
open Go.RowKit
set_option linter.unusedVariables false
section
variable {q : Nat} {b : DB} {s : DR}
theorem rDrop_no (w : World) (h : DAt w q b s) (i : Int) (hq : openD s i ≠ 0) :
    Calls Try.prog 42 #[.pointer (some ⟨q, 0, none⟩), .int .i64 i] w fun e w' => e = .returned (.tuple #[.slice none 0 0, .int .i64 (openD s i)]) ∧ w = w' := by
  have ho := ropen_any w h i
  obtain ⟨n, hn⟩ : ∃ n, openD s i = n := ⟨_, rfl⟩
  rw [hn] at ho hq ⊢
  have h1 : (n == 0) = false := by simpa using hq
  have h2 : (n != 0) = true := by simpa using hq
  clear h hn hq
  go_enter Try.func42, Try.ntmps42
  go_wp2_with fail
  refine ho.mono ?_
  rintro e w' ⟨rfl, rfl⟩
  go_wp2_with fail
  go_ret2
  exact ⟨rfl, rfl⟩
theorem rDrop_nil (w : World) (i : Int) : Calls Try.prog 42 #[.pointer none, .int .i64 i] w fun e w' => e = .returned (.tuple #[.slice none 0 0, .int .i64 1]) ∧ w = w' := by
  go_enter Try.func42, Try.ntmps42
  go_wp2_with fail
  refine (ropen_nil w i).mono ?_
  rintro e w' ⟨rfl, rfl⟩
  go_wp2_with fail
  go_ret2
  exact ⟨rfl, rfl⟩
/-- A line emptied. -/
theorem DAt.emptied {w : World} (h : DAt w q b s) {i : Nat} {l : DQ} (hl : s.lines[i]? = some l) {x1 o1 x2 o2 x3 o3 : Nat} (e1 : b.tA = some ⟨x1, o1, none⟩) (g1 : b.tg = some x1) (e2 : b.cA = some ⟨x2, o2, none⟩) (g2 : b.cg = some x2) (e3 : b.dA = some ⟨x3, o3, none⟩) (g3 : b.dg = some x3) :
    DAt (((w.setCell ⟨x1, o1 + i, none⟩ (.slice none 0 0)).setCell ⟨x2, o2 + i, none⟩ (.slice none 0 0)).setCell ⟨x3, o3 + i, none⟩ (.int .i64 0)) q b (s.put i DQ.none_) ∧
    Fr (fun x => b.tg = some x ∨ b.cg = some x ∨ b.dg = some x) w (((w.setCell ⟨x1, o1 + i, none⟩ (.slice none 0 0)).setCell ⟨x2, o2 + i, none⟩ (.slice none 0 0)).setCell ⟨x3, o3 + i, none⟩ (.int .i64 0)) := by
  have hi : i < s.lines.length := (List.getElem?_eq_some_iff.1 hl).1
  have n12 : x1 ≠ x2 := fun e => h.tc x1 g1 (e ▸ g2)
  have n13 : x1 ≠ x3 := fun e => h.td g1 (e ▸ g3)
  have n23 : x2 ≠ x3 := fun e => h.cd g2 (e ▸ g3)
  have F1 : ∀ (W : World) v, Fr (fun x => x = x1) W (W.setCell ⟨x1, o1 + i, none⟩ v) := fun W v => (Fr.refl _ _).setAt _
  have F2 : ∀ (W : World) v, Fr (fun x => x = x2) W (W.setCell ⟨x2, o2 + i, none⟩ v) := fun W v => (Fr.refl _ _).setAt _
  have F3 : ∀ (W : World) v, Fr (fun x => x = x3) W (W.setCell ⟨x3, o3 + i, none⟩ v) := fun W v => (Fr.refl _ _).setAt _
  have hF : Fr (fun x => b.tg = some x ∨ b.cg = some x ∨ b.dg = some x) w (((w.setCell ⟨x1, o1 + i, none⟩ (.slice none 0 0)).setCell ⟨x2, o2 + i, none⟩ (.slice none 0 0)).setCell ⟨x3, o3 + i, none⟩ (.int .i64 0)) :=
    (((F1 w _).mono fun x _ e => by subst e; exact .inl g1).trans ((F2 _ _).mono fun x _ e => by subst e; exact .inr (.inl g2))).trans ((F3 _ _).mono fun x _ e => by subst e; exact .inr (.inr g3))
  refine ⟨h.line hl hF (fun x _ e => .inr e) ?_ ?_ ?_ (Ow.nil_ _ _ _) (Ow.nil_ _ _ _) (fun x e => by cases e) (fun x e => by rcases e with e | e <;> cases e), hF⟩
  · have h0 := h.ot
    rw [e1] at h0 ⊢
    have h1 := h0.put (j := i) (by omega) (.slice none 0 0)
    rw [List.map_set]
    refine (h1.fr (F2 _ _) fun y hy e => ?_).fr (F3 _ _) fun y hy e => ?_ <;> (rw [g1] at hy; cases hy; first | exact n12 e | exact n13 e)
  · have h0 := h.oc.fr (F1 w (.slice none 0 0)) (fun y hy e => by rw [g2] at hy; cases hy; exact n12 e.symm)
    rw [e2] at h0 ⊢
    have h1 := h0.put (j := i) (by omega) (.slice none 0 0)
    rw [List.map_set]
    exact h1.fr (F3 _ _) fun y hy e => by rw [g2] at hy; cases hy; exact n23 e
  · have h0 := (h.od.fr (F1 w (.slice none 0 0)) (fun y hy e => by rw [g3] at hy; cases hy; exact n13 e.symm)).fr (F2 _ (.slice none 0 0)) (fun y hy e => by rw [g3] at hy; cases hy; exact n23 e.symm)
    rw [e3] at h0 ⊢
    have h1 := h0.put (j := i) (by omega) (.int .i64 0)
    rw [List.map_set]
    exact h1
set_option maxHeartbeats 4000000 in
set_option maxRecDepth 4000 in
theorem rDrop_ok (w : World) (h : DAt w q b s) (i : Nat) (l : DQ) (hl : s.lines[i]? = some l) (h0 : s.at_ < 0) :
    Calls Try.prog 42 #[.pointer (some ⟨q, 0, none⟩), .int .i64 (i : Int)] w fun e w' => e = .returned (.tuple #[.slice l.tA l.things.length l.tc, .int .i64 0]) ∧ DAt w' q b (s.put i DQ.none_) ∧ Fr (fun x => b.tg = some x ∨ b.cg = some x ∨ b.dg = some x) w w' := by
  have hlt : i < s.lines.length := (List.getElem?_eq_some_iff.1 hl).1
  have ho := ropen_any w h i
  rw [show openD s (i : Int) = 0 from by unfold openD; rw [if_neg (by omega), if_neg (by omega)]] at ho
  obtain ⟨x1, o1, e1, g1, c1, z1⟩ := h.tlook hl
  obtain ⟨x2, o2, e2, g2, c2, z2⟩ := h.clook hl
  obtain ⟨x3, o3, e3, g3, c3, z3⟩ := h.dlook hl
  have n12 : x1 ≠ x2 := fun e => h.tc x1 g1 (e ▸ g2)
  have n13 : x1 ≠ x3 := fun e => h.td g1 (e ▸ g3)
  have n23 : x2 ≠ x3 := fun e => h.cd g2 (e ▸ g3)
  have q1 : x1 ≠ q := fun e => h.ne_t (e ▸ g1)
  have q2 : x2 ≠ q := fun e => h.ne_c (e ▸ g2)
  have hfin := hide (h.emptied hl e1 g1 e2 g2 e3 g3)
  have hbl := h.bl
  unfold dcells at hbl
  obtain ⟨n, hn⟩ : ∃ n, s.lines.length = n := ⟨_, rfl⟩
  obtain ⟨m, hm⟩ : ∃ m, l.things.length = m := ⟨_, rfl⟩
  rw [hn, e1, e2, e3] at hbl
  rw [hm] at c1 c2 ⊢
  rw [hn] at hlt
  have d3 : w.cell? ⟨q, 3, none⟩ = some (.slice (some ⟨x1, o1, none⟩) n b.tc) := hbl.cell' rfl
  have d4 : w.cell? ⟨q, 4, none⟩ = some (.slice (some ⟨x2, o2, none⟩) n b.cc) := hbl.cell' rfl
  have d5 : w.cell? ⟨q, 5, none⟩ = some (.slice (some ⟨x3, o3, none⟩) n b.dc) := hbl.cell' rfl
  have i1 : (0 : Int) ≤ (i : Int) := by omega
  have i2 : (i : Int) < (n : Int) := by omega
  clear hbl hn hm hl h e1 e2 e3 g1 g2 g3 h0
  go_enter Try.func42, Try.ntmps42
  go_wp2_with fail
  refine ho.mono ?_
  rintro e w' ⟨rfl, rfl⟩
  go_wp2_with fail
  go_ret2
  exact ⟨rfl, hfin.out.1, hfin.out.2⟩
theorem rAdd_no (w : World) (h : DAt w q b s) (i c x : Int) (hq : openD s i ≠ 0) :
    Calls Try.prog 41 #[.pointer (some ⟨q, 0, none⟩), .int .i64 i, .int .i64 c, .int .i64 x] w fun e w' => e = .returned (.int .i64 (openD s i)) ∧ w = w' := by
  have ho := ropen_any w h i
  obtain ⟨n, hn⟩ : ∃ n, openD s i = n := ⟨_, rfl⟩
  rw [hn] at ho hq ⊢
  have h1 : (n == 0) = false := by simpa using hq
  have h2 : (n != 0) = true := by simpa using hq
  clear h hn hq
  go_enter Try.func41, Try.ntmps41
  go_wp2_with fail
  refine ho.mono ?_
  rintro e w' ⟨rfl, rfl⟩
  go_wp2_with fail
  go_ret
  exact ⟨rfl, rfl⟩
theorem rAdd_nil (w : World) (i c x : Int) : Calls Try.prog 41 #[.pointer none, .int .i64 i, .int .i64 c, .int .i64 x] w fun e w' => e = .returned (.int .i64 1) ∧ w = w' := by
  go_enter Try.func41, Try.ntmps41
  go_wp2_with fail
  refine (ropen_nil w i).mono ?_
  rintro e w' ⟨rfl, rfl⟩
  go_wp2_with fail
  go_ret
  exact ⟨rfl, rfl⟩
theorem rAdd_cost (w : World) (h : DAt w q b s) (i c x : Int) (hq : openD s i = 0) (hc : c < 1 ∨ 8 < c) :
    Calls Try.prog 41 #[.pointer (some ⟨q, 0, none⟩), .int .i64 i, .int .i64 c, .int .i64 x] w fun e w' => e = .returned (.int .i64 160) ∧ w = w' := by
  have ho := ropen_any w h i
  rw [hq] at ho
  by_cases h1 : c < 1
  · clear h hq hc
    go_enter Try.func41, Try.ntmps41
    go_wp2_with fail
    refine ho.mono ?_
    rintro e w' ⟨rfl, rfl⟩
    go_wp2_with fail
    go_ret
    exact ⟨rfl, rfl⟩
  · have h2 : 8 < c := by omega
    clear h hq hc
    go_enter Try.func41, Try.ntmps41
    go_wp2_with fail
    refine ho.mono ?_
    rintro e w' ⟨rfl, rfl⟩
    go_wp2_with fail
    go_ret
    exact ⟨rfl, rfl⟩
theorem rAdd_full (w : World) (h : DAt w q b s) (i : Nat) (l : DQ) (c x : Int) (hl : s.lines[i]? = some l) (h0 : s.at_ < 0) (hc1 : 1 ≤ c) (hc2 : c ≤ 8) (hf : s.room ≤ l.things.length) :
    Calls Try.prog 41 #[.pointer (some ⟨q, 0, none⟩), .int .i64 (i : Int), .int .i64 c, .int .i64 x] w fun e w' => e = .returned (.int .i64 161) ∧ Fr (fun _ => False) w w' := by
  have hlt : i < s.lines.length := (List.getElem?_eq_some_iff.1 hl).1
  have ho := ropen_any w h i
  rw [show openD s (i : Int) = 0 from by unfold openD; rw [if_neg (by omega), if_neg (by omega)]] at ho
  obtain ⟨x1, o1, e1, g1, c1, z1⟩ := h.tlook hl
  have hbl := h.bl
  unfold dcells at hbl
  obtain ⟨n, hn⟩ : ∃ n, s.lines.length = n := ⟨_, rfl⟩
  obtain ⟨m, hm⟩ : ∃ m, l.things.length = m := ⟨_, rfl⟩
  obtain ⟨r, hr⟩ : ∃ r, s.room = r := ⟨_, rfl⟩
  rw [hn, e1, hr] at hbl
  rw [hm] at c1 hf
  rw [hr] at hf
  rw [hn] at hlt
  have d1 : w.cell? ⟨q, 1, none⟩ = some (.int .i64 (r : Int)) := hbl.cell' rfl
  have d3 : w.cell? ⟨q, 3, none⟩ = some (.slice (some ⟨x1, o1, none⟩) n b.tc) := hbl.cell' rfl
  have i1 : (0 : Int) ≤ (i : Int) := by omega
  have i2 : (i : Int) < (n : Int) := by omega
  have i3 : (r : Int) ≤ (m : Int) := by omega
  have i4 : ¬ c < 1 := by omega
  have i5 : ¬ 8 < c := by omega
  clear hbl hn hm hl h e1 g1 h0 hr hf
  go_enter Try.func41, Try.ntmps41
  go_wp2_with fail
  refine ho.mono ?_
  rintro e w' ⟨rfl, rfl⟩
  go_wp2_with fail
  go_quiet (fail)
  go_wp2_with fail
  go_ret
  exact ⟨rfl, (Fr.refl _ _).drewN nq⟩
theorem SlD.oneD (w : World) (v : Value) (t : TypeId) : Sl ((w.alloc (.cells #[v] t)).drew) 1 (some ⟨w.heap.size, 0, none⟩) 1 [v] := SlD.one w v t
/-- Between the two appends of Add. -/
structure Half (w : World) (q : Nat) (b : DB) (s : DR) (i : Nat) (l : DQ) (x : Int × Int) (A2 : Option Addr) (c2 : Nat) (g2 : Option Nat) (W : World) : Prop where
  bl : Bl W q tRD (dcells b s)
  ot : Ow W tInts_ 1 b.tA s.lines.length b.tc ((s.lines.map thdr).set i (.slice A2 (l.things.length + 1) c2)) b.tg
  oc : Ow W tInts_ 1 b.cA s.lines.length b.cc (s.lines.map chdr) b.cg
  od : Ow W tInt_ 1 b.dA s.lines.length b.dc (s.lines.map fun l => iv_ l.df) b.dg
  nt : Ow W tInt_ 1 A2 (l.things.length + 1) c2 (tvals l ++ [iv_ x.1]) g2
  lc : Ow W tInt_ 1 l.cA l.things.length l.cc (cvals l) l.cg
  fr : Fr (fun k => l.tg = some k ∨ b.tg = some k) w W
  nw : g2 = l.tg ∨ ∃ b, g2 = some b ∧ w.heap.size ≤ b
theorem half_of {w w2 : World} (h : DAt w q b s) {i : Nat} {l : DQ} (hl : s.lines[i]? = some l) {x : Int × Int} {A2 : Option Addr} {c2 : Nat} {g2 : Option Nat} {x1 o1 : Nat} (e1 : b.tA = some ⟨x1, o1, none⟩) (g1 : b.tg = some x1)
    (hO : Ow w2 tInt_ 1 A2 (l.things.length + 1) c2 (tvals l ++ [iv_ x.1]) g2) (hf : Fr (fun k => some k = l.tg) w w2) (hg : g2 = l.tg ∨ ∃ b, g2 = some b ∧ w.heap.size ≤ b) :
    Half w q b s i l x A2 c2 g2 (w2.setCell ⟨x1, o1 + i, none⟩ (.slice A2 (l.things.length + 1) c2)) := by
  have hm : l ∈ s.lines := List.mem_of_getElem? hl
  have hi : i < s.lines.length := (List.getElem?_eq_some_iff.1 hl).1
  have F1 : Fr (fun x => x = x1) w2 (w2.setCell ⟨x1, o1 + i, none⟩ (.slice A2 (l.things.length + 1) c2)) := (Fr.refl _ _).setAt _
  have nl : ∀ k, l.foot k → k ≠ x1 := fun k hk e => h.tl hm g1 (e ▸ hk)
  refine ⟨(h.bl.fr hf fun e => h.ne_l hm (.inl e.symm)).fr F1 fun e => h.ne_t (e ▸ g1), ?_, (h.oc.fr hf fun y hy e => h.cl hm hy (.inl e.symm)).fr F1 fun y hy e => h.tc x1 g1 (e ▸ hy), (h.od.fr hf fun y hy e => h.dl l hm y hy (.inl e.symm)).fr F1 fun y hy e => h.td g1 (e ▸ hy), ?_,
    ((h.lc l hm).fr hf fun y hy e => h.own l hm y e.symm hy).fr F1 fun y hy e => nl y (.inr hy) e, (hf.mono fun k _ e => .inl e.symm).trans (F1.mono fun k _ e => by subst e; exact .inr g1), hg⟩
  · have h0 := h.ot.fr hf fun y hy e => h.tl hm hy (.inl e.symm)
    rw [e1] at h0 ⊢
    exact h0.put (j := i) (by omega) _
  · refine hO.fr F1 fun y hy e => ?_
    subst e
    obtain ⟨cs, hc⟩ := Ow.tyD hO hy
    obtain ⟨cs', hc'⟩ := Ow.tyD (h.ot.fr hf fun y hy e => h.tl hm hy (.inl e.symm)) g1
    exact absurd (hc.same hc').2 (by decide)
/-- A line with one more thing. -/
def DQ.more (l : DQ) (x : Int × Int) (A2 : Option Addr) (c2 : Nat) (g2 : Option Nat) (A5 : Option Addr) (c5 : Nat) (g5 : Option Nat) : DQ := ⟨A2, c2, g2, A5, c5, g5, l.things ++ [x], l.df⟩
theorem own_neH {w W : World} {q : Nat} {b : DB} {s : DR} {i : Nat} {l : DQ} {x : Int × Int} {A2 : Option Addr} {c2 : Nat} {g2 : Option Nat} (H : Half w q b s i l x A2 c2 g2 W) (h : DAt w q b s) (hm : l ∈ s.lines) {y : Nat} (hy : g2 = some y) (e : l.cg = some y) : False := by
  rcases H.nw with e3 | ⟨z, e3, hz⟩
  · exact h.own l hm y (e3 ▸ hy) e
  · rw [e3] at hy; cases hy
    have := (h.lc l hm).lt y e
    omega
theorem Half.full {w W w5 : World} (h : DAt w q b s) {i : Nat} {l : DQ} (hl : s.lines[i]? = some l) {x : Int × Int} {A2 : Option Addr} {c2 : Nat} {g2 : Option Nat} (H : Half w q b s i l x A2 c2 g2 W) {A5 : Option Addr} {c5 : Nat} {g5 : Option Nat} {x2 o2 : Nat} (e2 : b.cA = some ⟨x2, o2, none⟩) (gg2 : b.cg = some x2)
    (hO : Ow w5 tInt_ 1 A5 (l.things.length + 1) c5 (cvals l ++ [iv_ x.2]) g5) (hf : Fr (fun k => some k = l.cg) W w5) (hg : g5 = l.cg ∨ ∃ b, g5 = some b ∧ W.heap.size ≤ b) :
    DAt (w5.setCell ⟨x2, o2 + i, none⟩ (.slice A5 (l.things.length + 1) c5)) q b (s.put i (l.more x A2 c2 g2 A5 c5 g5)) ∧ Fr (fun k => l.foot k ∨ b.tg = some k ∨ b.cg = some k) w (w5.setCell ⟨x2, o2 + i, none⟩ (.slice A5 (l.things.length + 1) c5)) ∧ ∀ k, (l.more x A2 c2 g2 A5 c5 g5).foot k → l.foot k ∨ w.heap.size ≤ k := by
  have hm : l ∈ s.lines := List.mem_of_getElem? hl
  have hi : i < s.lines.length := (List.getElem?_eq_some_iff.1 hl).1
  have F2 : Fr (fun x => x = x2) w5 (w5.setCell ⟨x2, o2 + i, none⟩ (.slice A5 (l.things.length + 1) c5)) := (Fr.refl _ _).setAt _
  have sW := H.fr.size
  have hF : Fr (fun k => l.foot k ∨ b.tg = some k ∨ b.cg = some k) w (w5.setCell ⟨x2, o2 + i, none⟩ (.slice A5 (l.things.length + 1) c5)) :=
    ((H.fr.mono fun k _ e => e.elim (fun e => .inl (.inl e)) (fun e => .inr (.inl e))).trans (hf.mono fun k _ e => .inl (.inr e.symm))).trans (F2.mono fun k _ e => by subst e; exact .inr (.inr gg2))
  have hl2 : (l.more x A2 c2 g2 A5 c5 g5).things.length = l.things.length + 1 := by simp [DQ.more]
  have hn : ∀ k, (l.more x A2 c2 g2 A5 c5 g5).foot k → l.foot k ∨ w.heap.size ≤ k := by
    rintro k (e | e)
    · rcases H.nw with e1 | ⟨y, e1, hy⟩
      · exact .inl (.inl (e1 ▸ e))
      · have e' : g2 = some k := e
        rw [e1] at e'; cases e'; exact .inr hy
    · rcases hg with e1 | ⟨y, e1, hy⟩
      · exact .inl (.inr (e1 ▸ e))
      · have e' : g5 = some k := e
        rw [e1] at e'; cases e'; exact .inr (by omega)
  have own' : ∀ k, g2 = some k → g5 ≠ some k := by
    intro k a1 a2
    have hk := H.nt.lt k a1
    rcases hg with e1 | ⟨y, e1, hy⟩
    · rw [e1] at a2
      rcases H.nw with e3 | ⟨y, e3, hy⟩
      · exact h.own l hm k (e3 ▸ a1) a2
      · rw [e3] at a1; cases a1
        have := (h.lc l hm).lt k a2
        omega
    · rw [e1] at a2; cases a2; omega
  have hrow : ∀ (e' : TypeId) {size n c : Nat} {A : Option Addr} {xs : List Value} {g : Option Nat}, Ow w5 e' size A n c xs g → e' ≠ tInts_ → ∀ y, g = some y → y ≠ x2 := fun e' _ _ _ _ _ _ hO hne y hy e => by
    subst e
    obtain ⟨cs, hc⟩ := Ow.tyD hO hy
    obtain ⟨cs', hc'⟩ := Ow.tyD (H.oc.fr hf fun y hy e => h.cl hm hy (.inr e.symm)) gg2
    exact hne (hc.same hc').2
  refine ⟨h.line hl hF (fun k _ e => e.imp id fun e => e.imp id fun e => .inl e) ?_ ?_ ?_ ?_ ?_ own' hn, hF, hn⟩
  · have h0 := (H.ot.fr hf fun y hy e => h.tl hm hy (.inr e.symm)).fr F2 fun y hy e => h.tc y hy (e ▸ gg2)
    rw [List.map_set]
    simp only [thdr, hl2]
    exact h0
  · have h0 := H.oc.fr hf fun y hy e => h.cl hm hy (.inr e.symm)
    rw [e2] at h0 ⊢
    have h1 := h0.put (j := i) (by omega) (.slice A5 (l.things.length + 1) c5)
    rw [List.map_set]
    simp only [chdr, hl2]
    exact h1
  · have h0 := H.od.fr hf fun y hy e => h.dl l hm y hy (.inr e.symm)
    have h1 := h0.fr F2 fun y hy e => h.cd gg2 (e ▸ hy)
    have e7 : ((s.lines.set i (l.more x A2 c2 g2 A5 c5 g5)).map fun l => iv_ l.df) = s.lines.map fun l => iv_ l.df := by
      rw [List.map_set]
      apply List.ext_getElem?
      intro j
      by_cases hj : i = j
      · subst hj
        rw [List.getElem?_set_self (by simpa using hi), List.getElem?_map, hl]; rfl
      · rw [List.getElem?_set_ne hj]
    rw [e7]; exact h1
  · have h0 := H.nt.fr hf fun y hy e => own_neH H h hm hy e.symm
    have h1 := h0.fr F2 fun y hy e => hrow _ h0 (by decide) y hy e
    have e8 : tvals (l.more x A2 c2 g2 A5 c5 g5) = tvals l ++ [iv_ x.1] := by simp [tvals, DQ.more]
    rw [hl2, e8]; exact h1
  · have h1 := hO.fr F2 fun y hy e => hrow _ hO (by decide) y hy e
    have e8 : cvals (l.more x A2 c2 g2 A5 c5 g5) = cvals l ++ [iv_ x.2] := by simp [cvals, DQ.more]
    rw [hl2, e8]; exact h1
set_option maxHeartbeats 8000000 in
set_option maxRecDepth 4000 in
theorem rAdd_ok (w : World) (h : DAt w q b s) (i : Nat) (l : DQ) (c x : Int) (hl : s.lines[i]? = some l) (h0 : s.at_ < 0) (hc1 : 1 ≤ c) (hc2 : c ≤ 8) (hf : l.things.length < s.room) (hr : s.room ≤ 65536) :
    Calls Try.prog 41 #[.pointer (some ⟨q, 0, none⟩), .int .i64 (i : Int), .int .i64 c, .int .i64 x] w fun e w' => e = .returned (.int .i64 0) ∧ ∃ l' : DQ, l'.things = l.things ++ [(x, c)] ∧ l'.df = l.df ∧ DAt w' q b (s.put i l') ∧ Fr (fun k => l.foot k ∨ b.tg = some k ∨ b.cg = some k) w w' ∧ ∀ k, l'.foot k → l.foot k ∨ w.heap.size ≤ k := by
  obtain ⟨i0, ih, i0', i1', i2'⟩ := info_parts infoI_
  have hlt : i < s.lines.length := (List.getElem?_eq_some_iff.1 hl).1
  have ho := ropen_any w h i
  rw [show openD s (i : Int) = 0 from by unfold openD; rw [if_neg (by omega), if_neg (by omega)]] at ho
  have hm : l ∈ s.lines := List.mem_of_getElem? hl
  obtain ⟨x1, o1, e1, g1, c1, z1⟩ := h.tlook hl
  obtain ⟨x2, o2, e2, g2, c2, z2⟩ := h.clook hl
  have n1 : ¬ some x1 = l.tg := fun e => h.tl hm g1 (.inl e.symm)
  have nqt : ¬ some q = l.tg := fun e => h.ne_l hm (.inl e.symm)
  have n2 : ¬ some x2 = l.cg := fun e => h.cl hm g2 (.inr e.symm)
  have nq2 : ¬ some q = l.cg := fun e => h.ne_l hm (.inr e.symm)
  have hbl := h.bl
  have hOt := h.lt l hm
  have H := hide h
  have Hl := hide hl
  have Hg := hide (And.intro e1 (And.intro g1 (And.intro e2 g2)))
  unfold dcells at hbl
  obtain ⟨n, hn⟩ : ∃ n, s.lines.length = n := ⟨_, rfl⟩
  obtain ⟨m, hmm⟩ : ∃ m, l.things.length = m := ⟨_, rfl⟩
  obtain ⟨r, hrr⟩ : ∃ r, s.room = r := ⟨_, rfl⟩
  rw [hn, e1, e2, hrr] at hbl
  rw [hmm] at c1 c2 hf hOt
  rw [hrr] at hf hr
  rw [hn] at hlt
  have Hn := hide hn
  have Hm := hide hmm
  have d1 : w.cell? ⟨q, 1, none⟩ = some (.int .i64 (r : Int)) := hbl.cell' rfl
  have d3 : w.cell? ⟨q, 3, none⟩ = some (.slice (some ⟨x1, o1, none⟩) n b.tc) := hbl.cell' rfl
  have i1 : (0 : Int) ≤ (i : Int) := by omega
  have i2 : (i : Int) < (n : Int) := by omega
  have i3 : ¬ (r : Int) ≤ (m : Int) := by omega
  have i4 : ¬ c < 1 := by omega
  have i5 : ¬ 8 < c := by omega
  have hmx : m + 1 ≤ maxLen := by unfold maxLen; omega
  clear hbl hn hmm hl h e1 g1 e2 g2 h0 hrr c2 z2 hm
  go_enter Try.func41, Try.ntmps41
  go_wp2_with fail
  refine ho.mono ?_
  rintro e w' ⟨rfl, rfl⟩
  clear ho
  go_wp2_with fail
  go_quiet (fail)
  have hfA : Fr (fun _ => False) w (w.drewN nq) := (Fr.refl _ _).drewN nq
  generalize hwA : w.drewN nq = wA at hfA ⊢
  clear hwA
  have hA := H.out.quiet hfA
  have HA := hide hA
  have d3A := (hfA.cell (World.block_lt_of_cell? w _ d3) id).trans d3
  have c1A := (hfA.cell (World.block_lt_of_cell? w _ c1) id).trans c1
  have z1A := (hfA.frozen (World.block_lt_of_cell? w _ c1) id).trans z1
  have hOA := hOt.fr hfA (fun _ _ => id)
  have bx1 := World.block_lt_of_cell? wA _ c1A
  have bq := World.block_lt_of_cell? wA _ d3A
  clear d1 d3 c1 z1 hOt hA
  go_upto_region 8 with fail
  go_cut [0, 1, 2] (fun s0 s1 s2 wx => s0 = .pointer (some ⟨q, 0, none⟩) ∧ s1 = .int .i64 (i : Int) ∧ s2 = .int .i64 c ∧ ∃ A2 c2 g2, Hid (Half wA q b s i l (x, c) A2 c2 g2 wx))
  case first =>
    go_region_law
      ((refine step_append_ow _ (by rfl) _ _ 30 (by rfl) 3 i0 (.int .i64 0) 1 8 Try.underlying30 ih i0' i1' i2' rfl (by decide) l.tA m l.tc (tvals l) l.tg (by rfl) (hOA.fr (S := fun _ => False) (Fr.drew (Fr.alloc (Fr.refl _ _) _)) (fun _ _ => id)) _ 1 1 [iv_ x] (by rfl) (SlD.oneD wA (iv_ x) tInt_) (by intro u hu; simp at hu; subst hu; rfl) hmx (by omega) ?_; intro A2 c2 w2 g2 hO2 hf2 hg2; have hf12 : Fr (fun k => some k = l.tg) wA w2 := Fr.comp (Fr.drew (Fr.alloc (Fr.refl _ _) _)) hf2 (fun _ _ e => e); have t0 := (hf12.cell bq nqt).trans d3A; have t1 := (hf12.cell bx1 n1).trans c1A; have t2 := (hf12.frozen bx1 n1).trans z1A; have h8 := half_of (x := (x, c)) HA.out Hl.out Hg.out.1 Hg.out.2.1 (by rw [Hm.out]; exact hO2) hf12 (hg2.imp id fun ⟨y, e, hy⟩ => ⟨y, e, by simp at hy; omega⟩); rw [Hm.out] at h8; have HH := hide h8; clear hO2 hf2 hg2 hf12 h8))
    all_goals
      go_wp2_with fail
      go_meet
      case rel => exact ⟨rfl, rfl, rfl, A2, c2, g2, HH⟩
  case rest =>
  obtain ⟨rfl, rfl, rfl, A2, c2, g2, HH⟩ := hcut
  obtain ⟨W2, rfl⟩ : ∃ W2, W2 = wc := ⟨_, rfl⟩
  have hbl2 := HH.out.bl
  unfold dcells at hbl2
  rw [Hn.out, Hg.out.2.2.1] at hbl2
  have d4 : W2.cell? ⟨q, 4, none⟩ = some (.slice (some ⟨x2, o2, none⟩) n b.cc) := hbl2.cell' rfl
  obtain ⟨x2', o2', e2', -, c2A, z2A⟩ := HH.out.oc.look (j := i) (u := chdr l) (by rw [List.getElem?_map, Hl.out]; rfl)
  rw [Hg.out.2.2.1] at e2'
  cases e2'
  have c2B : W2.cell? ⟨x2, o2 + i, none⟩ = some (.slice l.cA m l.cc) := by rw [← Hm.out]; exact c2A
  have hOB := HH.out.lc
  rw [Hm.out] at hOB
  have bx2 := World.block_lt_of_cell? W2 _ c2B
  have bq := World.block_lt_of_cell? W2 _ d4
  clear hbl2 c2A
  go_wp2_with fail
  go_region_law
    ((refine step_append_ow _ (by rfl) _ _ 30 (by rfl) 3 i0 (.int .i64 0) 1 8 Try.underlying30 ih i0' i1' i2' rfl (by decide) l.cA m l.cc (cvals l) l.cg (by rfl) (hOB.fr (S := fun _ => False) (Fr.drew (Fr.alloc (Fr.refl _ _) _)) (fun _ _ => id)) _ 1 1 [iv_ c] (by rfl) (SlD.oneD W2 (iv_ c) tInt_) (by intro u hu; simp at hu; subst hu; rfl) hmx (by omega) ?_; intro A5 c5 w5 g5 hO5 hf5 hg5; have hf15 : Fr (fun k => some k = l.cg) W2 w5 := Fr.comp (Fr.drew (Fr.alloc (Fr.refl _ _) _)) hf5 (fun _ _ e => e); have t0 := (hf15.cell bq nq2).trans d4; have t1 := (hf15.cell bx2 n2).trans c2B; have t2 := (hf15.frozen bx2 n2).trans z2A; have h9 := HH.out.full HA.out Hl.out Hg.out.2.2.1 Hg.out.2.2.2 (by rw [Hm.out]; exact hO5) hf15 (hg5.imp id fun ⟨y, e, hy⟩ => ⟨y, e, by simp at hy; omega⟩); rw [Hm.out] at h9; have H9 := hide h9; clear hO5 hf5 hg5 hf15 h9))
  all_goals go_wp2_with fail
  all_goals go_ret
  all_goals exact ⟨rfl, l.more (x, c) A2 c2 g2 A5 c5 g5, rfl, rfl, H9.out.1, (hfA.weak _).trans H9.out.2.1, fun k hk => (H9.out.2.2 k hk).imp id fun h => by have := hfA.size; omega⟩
end
end Go.Proofs.Ytanfhmebjgmdpaa
