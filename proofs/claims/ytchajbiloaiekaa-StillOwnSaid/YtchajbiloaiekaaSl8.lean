/-
  Open.
-/
import Derived.Test.YtchajbiloaiekaaSl7
namespace Go.Proofs.Ytchajbiloaiekaa
open Go.RowKit
set_option linter.unusedVariables false
/-- The picture that Open finds. -/
def openP (T : Nat → List Nat) (fr n : Nat) : List Nat := if (standsN T fr n 0).2 < (standsN T fr n 1).2 then (standsN T fr n 1).1 else (standsN T fr n 0).1
theorem standsN_zero {T : Nat → List Nat} {fr n k : Nat} (h : (standsN T fr n k).2 = 0) : (standsN T fr n k).1 = [] := by
  revert h
  unfold standsN
  simp only
  split
  · intro _; rfl
  · rename_i h1
    split
    · intro _; rfl
    · split
      · intro _; rfl
      · intro h; exact absurd h (by simp at h1 ⊢; omega)
abbrev tPSt : TypeId := 30
abbrev tBs : TypeId := 22
abbrev tEn : TypeId := 27
/-- Within Open: the result's cells, the Still under making, the picture so far. -/
def OB (w : World) (s s1 s2 q p fr n a0 a1 : Nat) (P : List Nat) (wr : World) : Prop :=
  ∃ A c g, Bl wr s tPSt #[.pointer (some ⟨q, 0, none⟩)] ∧ Bl wr s1 tBs #[.slice A P.length c] ∧ Bl wr s2 tEn #[.int .i64 0] ∧ SAt wr q p fr n a0 a1 ∧ Ow wr tU8 1 A P.length c (P.map bn) g ∧ (∀ b, g = some b → w.heap.size ≤ b) ∧ Fr (fun _ => False) w wr
/-- What Open answers. -/
def OpenOut (w : World) (T : Nat → List Nat) (p fr n : Nat) (e : Ending) (w' : World) : Prop :=
  ∃ q A c g, e = .returned (.tuple #[.pointer (some ⟨q, 0, none⟩), .slice A (openP T fr n).length c, .int .i64 0]) ∧ SAt w' q p fr n (standsN T fr n 0).2 (standsN T fr n 1).2 ∧ Ow w' tU8 1 A (openP T fr n).length c ((openP T fr n).map bn) g ∧ (∀ b, g = some b → w.heap.size ≤ b) ∧ w.heap.size ≤ q ∧ Fr (fun _ => False) w w'
theorem hmf (fn : Fn) (first cap : Array Value) (w : World) : (Instr.makeFunc fn first cap).run Try.prog w = .ok (.func fn first cap) w := rfl
section
variable {w : World} {p fr n N : Nat} {F : Nat → Prop} {s : DS}
set_option maxHeartbeats 4000000 in
set_option maxRecDepth 4000 in
theorem open_any (hd : DI w p N F s) (hf : s.fuse = -1) (hn : 2 ≤ n) (hb : fr + 2 * n ≤ N) (hlt : ∀ i, i < N → ∀ x ∈ s.told i, x < 256) :
    Calls Try.prog 10 #[.pointer (some ⟨p, 0, none⟩), .int .i64 (fr : Int), .int .i64 (n : Int)] w (OpenOut w s.told p fr n) := by
  have hN : N ≤ 65536 := hd.ok.n2
  obtain ⟨s0, hs0⟩ : ∃ s0, w.heap.size = s0 := ⟨_, rfl⟩
  have Hs0 := hide hs0
  have hf0 : Fr (fun _ => False) w (((w.alloc (.cells #[.pointer none] tPSt)).alloc (.cells #[.slice none 0 0] tBs)).alloc (.cells #[.int .i64 0] tEn)) := (((Fr.refl _ _).alloc _).alloc _).alloc _
  have hB0 : Bl (((w.alloc (.cells #[.pointer none] tPSt)).alloc (.cells #[.slice none 0 0] tBs)).alloc (.cells #[.int .i64 0] tEn)) s0 tPSt #[.pointer none] := ((Bl.newAt hs0.symm).alloc _).alloc _
  have hB1 : Bl (((w.alloc (.cells #[.pointer none] tPSt)).alloc (.cells #[.slice none 0 0] tBs)).alloc (.cells #[.int .i64 0] tEn)) (s0 + 1) tBs #[.slice none 0 0] := (Bl.newAt (by simp [hs0])).alloc _
  have hB2 : Bl (((w.alloc (.cells #[.pointer none] tPSt)).alloc (.cells #[.slice none 0 0] tBs)).alloc (.cells #[.int .i64 0] tEn)) (s0 + 1 + 1) tEn #[.int .i64 0] := Bl.newAt (by simp [hs0])
  have hsz : (((w.alloc (.cells #[.pointer none] tPSt)).alloc (.cells #[.slice none 0 0] tBs)).alloc (.cells #[.int .i64 0] tEn)).heap.size = s0 + 1 + 1 + 1 := by simp [hs0]
  have hmf' := hmf
  have hsec := fun W (hW : Fr (fun _ => False) w W) => sectors_any (hd.fr hW (fun _ _ => id))
  have Hd := hide (show ∀ W, Fr (fun _ => False) w W → DI W p N F s from fun W hW => hd.fr hW (fun _ _ => id))
  have i1 : ¬ (fr : Int) < 0 := by omega
  have i2 : ¬ (n : Int) < 2 := by omega
  have i3 : ¬ (N : Int) < (n : Int) := by omega
  have i4 : IntKind.i64.wrap (2 * (n : Int)) = 2 * (n : Int) := IntWalk.i64_in _ (by omega)
  have i5 : IntKind.i64.wrap ((N : Int) - 2 * (n : Int)) = (N : Int) - 2 * (n : Int) := IntWalk.i64_in _ (by omega)
  have i6 : decide ((N : Int) - 2 * (n : Int) < (fr : Int)) = false := decide_eq_false (by omega)
  clear hd
  go_enter_defers Try.func10, Try.ntmps10
  go_wp2_with fail
  generalize hw1 : (((w.alloc (.cells #[.pointer none] 30)).alloc (.cells #[.slice none 0 0] 22)).alloc (.cells #[.int .i64 0] 27)) = w1 at hf0 hB0 hB1 hB2 hsz ⊢
  clear hw1
  obtain ⟨s1, hs1⟩ : ∃ s1, s0 + 1 = s1 := ⟨_, rfl⟩
  rw [hs1] at hB1 hB2 hsz ⊢
  obtain ⟨s2, hs2⟩ : ∃ s2, s1 + 1 = s2 := ⟨_, rfl⟩
  rw [hs2] at hB2 hsz ⊢
  have hc1 := hsec w1 hf0
  refine hc1.mono ?_
  rintro e w' ⟨rfl, rfl⟩
  go_wp2_with fail
  refine hc1.mono ?_
  rintro e w' ⟨rfl, rfl⟩
  have hB0a : Bl (w1.alloc (.cells #[.pointer (some ⟨p, 0, none⟩), .int .i64 (fr : Int), .int .i64 (n : Int), .int .i64 0, .int .i64 0, .bool false] 56)) s0 tPSt #[.pointer none] := hB0.alloc _
  have c0 := hB0a.cell' (i := 0) (v := .pointer none) rfl
  have z0 := hB0a.free 0
  clear hB0a
  have hne0 : s0 ≠ s1 ∧ s0 ≠ s2 ∧ s1 ≠ s2 := by omega
  obtain ⟨q, hq⟩ : ∃ q, w1.heap.size = q := ⟨_, rfl⟩
  have Hq := hide hq
  have Hsz := hide hsz
  have HB := hide (And.intro hf0 (And.intro hB0 (And.intro hB1 hB2)))
  clear hsz hf0 hB0 hB1 hB2 hc1 hsec
  have Hss := hide (And.intro hs1 hs2)
  clear hs1 hs2
  go_wp2_with fail
  have HO : Hid (OB w s0 s1 s2 q p fr n 0 0 [] ((w1.alloc (.cells #[.pointer (some ⟨p, 0, none⟩), .int .i64 (fr : Int), .int .i64 (n : Int), .int .i64 0, .int .i64 0, .bool false] 56)).setCell ⟨s0, 0, none⟩ (.pointer (some ⟨q, 0, none⟩)))) := by
    obtain ⟨hf0, hB0, hB1, hB2⟩ := HB.out
    have hset : Fr (fun x => x = s0) (w1.alloc (.cells #[.pointer (some ⟨p, 0, none⟩), .int .i64 (fr : Int), .int .i64 (n : Int), .int .i64 0, .int .i64 0, .bool false] 56)) ((w1.alloc (.cells #[.pointer (some ⟨p, 0, none⟩), .int .i64 (fr : Int), .int .i64 (n : Int), .int .i64 0, .int .i64 0, .bool false] 56)).setCell ⟨s0, 0, none⟩ (.pointer (some ⟨q, 0, none⟩))) := (Fr.refl _ _).setAt _
    have hqq : q ≠ s0 := by have := Hq.out; have := Hsz.out; have := Hss.out; omega
    refine ⟨none, 0, none, (hB0.alloc _).set 0 _, (hB1.alloc _).fr hset (by omega), (hB2.alloc _).fr hset (by omega), (show Bl _ q tStill _ from (Bl.newAt Hq.out.symm)).fr hset hqq, Ow.nil_ _ _ _, (fun b h => by cases h), ?_⟩
    exact (hf0.alloc _).comp hset fun i hi e => by have e2 : i = s0 := e; have := Hs0.out; omega
  generalize hw2 : (w1.alloc (.cells #[.pointer (some ⟨p, 0, none⟩), .int .i64 (fr : Int), .int .i64 (n : Int), .int .i64 0, .int .i64 0, .bool false] 56)).setCell ⟨s0, 0, none⟩ (.pointer (some ⟨q, 0, none⟩)) = w2 at HO ⊢
  clear hw2 c0 z0 HB i1 i2 i3 i4 i5 i6
  obtain ⟨r0, hr0⟩ : ∃ r, standsN s.told fr n 0 = r := ⟨_, rfl⟩
  obtain ⟨r1, hr1⟩ : ∃ r, standsN s.told fr n 1 = r := ⟨_, rfl⟩
  obtain ⟨P0, x0⟩ := r0
  obtain ⟨P1, x1⟩ := r1
  have Hr := hide (And.intro hr0 hr1)
  have hqs : q = s2 + 1 := by have := Hq.out; have := Hsz.out; omega
  have Hqs := hide hqs
  clear hr0 hr1 hqs
  go_loopw [43] (fun i wr => (i = .int .i64 0 ∧ OB w s0 s1 s2 q p fr n 0 0 [] wr) ∨ (i = .int .i64 1 ∧ OB w s0 s1 s2 q p fr n x0 0 P0 wr) ∨ (i = .int .i64 2 ∧ OB w s0 s1 s2 q p fr n x0 x1 (openP s.told fr n) wr)) (fun i _ => (2 - intOf i).toNat)
  case atStart => exact .inl ⟨rfl, HO.out⟩
  case round =>
    clear HO
    rcases hrel with ⟨rfl, hO⟩ | ⟨rfl, hO⟩ | ⟨rfl, hO⟩
    · obtain ⟨A, c, g, hP, hS, hE, hSt, hO, hg, hF⟩ := hO
      have hst : Calls Try.prog 26 #[.pointer (some ⟨q, 0, none⟩), .int .i64 0] wr (StandsOut wr (P0, x0)) := by
        rw [← Hr.out.1]; exact stands_any hSt (Hd.out wr hF) hf 0 (by omega) hn hb hlt
      have c6 : wr.cell? ⟨s0, 0, none⟩ = some (.pointer (some ⟨q, 0, none⟩)) := hP.cell' rfl
      have HO := hide (And.intro hP (And.intro hS (And.intro hE (And.intro hSt (And.intro hO (And.intro hg hF))))))
      clear hP hS hE hSt hO hg hF
      go_wp2_with fail
      refine hst.mono ?_
      rintro e w3 ⟨A3, c3, g3, rfl, hO3, hg3, hf3⟩
      obtain ⟨hP, hS, hE, hSt, hO, hg, hF⟩ := HO.out
      have ht : Calls Try.prog 15 #[.pointer (some ⟨q, 0, none⟩)] w3 fun e w' => e = .returned (.int .i64 0) ∧ Fr (fun _ => False) w3 w' := by
        have := turn_any (hSt.fr hf3 id)
        rw [Nat.max_eq_left (Nat.zero_le _)] at this
        exact this
      have c63 : w3.cell? ⟨s0, 0, none⟩ = some (.pointer (some ⟨q, 0, none⟩)) := (hP.fr hf3 id).cell' rfl
      have H3 := hide (And.intro hO3 (And.intro hg3 hf3))
      have hsz3 : Hid (w.heap.size ≤ wr.heap.size) := hF.size
      clear hst c6 hP hS hE hSt hO hg hF hO3 hg3 hf3
      simp only []
      go_wp2_with fail
      refine ht.mono ?_
      rintro e w4 ⟨rfl, hf4⟩
      obtain ⟨hP, hS, hE, hSt, hO, hg, hF⟩ := HO.out
      obtain ⟨hO3, hg3, hf3⟩ := H3.out
      have hf34 := hf3.trans hf4
      have hP4 := hP.fr hf34 id
      have hS4 := hS.fr hf34 id
      have hE4 := hE.fr hf34 id
      have hT4 := hSt.fr hf34 id
      have hO4 := hO.fr hf34 (fun _ _ => id)
      have hO34 := hO3.fr hf4 (fun _ _ => id)
      have hF4 := hF.trans hf34
      have c64 : w4.cell? ⟨s0, 0, none⟩ = some (.pointer (some ⟨q, 0, none⟩)) := hP4.cell' rfl
      have cq : w4.cell? ⟨q, 3, none⟩ = some (.int .i64 0) := hT4.cell' rfl
      have zq := hT4.free 3
      have cs1 : w4.cell? ⟨s1, 0, none⟩ = some (.slice A ([] : List Nat).length c) := hS4.cell' rfl
      have zs1 := hS4.free 0
      have nq : s1 ≠ q ∧ s0 ≠ q ∧ s2 ≠ q := by have := Hqs.out; have := Hss.out; omega
      have hgw : ∀ b, g3 = some b → w.heap.size ≤ b := fun b e => by have := hg3 b e; have := hsz3.out; omega
      have hsw : w.heap.size ≤ s0 ∧ s0 < s1 ∧ s1 < s2 ∧ s2 < q := by have := Hs0.out; have := Hqs.out; have := Hss.out; omega
      have hng : ∀ b (cs : Array Value) t, Bl w4 b t cs → t ≠ tU8 → (g ≠ some b ∧ g3 ≠ some b) := fun b cs t hb ht => ⟨fun e => by
        have h1 := hO4
        rw [e] at h1
        obtain ⟨cs', hc⟩ := h1.ty
        exact ht (hb.same hc).2, fun e => by
        have h1 := hO34
        rw [e] at h1
        obtain ⟨cs', hc⟩ := h1.ty
        exact ht (hb.same hc).2⟩
      have n0 := hng _ _ _ hP4 (by decide)
      have n1 := hng _ _ _ hS4 (by decide)
      have n2 := hng _ _ _ hE4 (by decide)
      have n3 := hng _ _ _ hT4 (by decide)
      by_cases hgt : 0 < x0
      · have i7 : (0 : Int) < (x0 : Int) := by omega
        have HX := hide (And.intro hP4 (And.intro hS4 (And.intro hE4 (And.intro hT4 (And.intro hO34 (And.intro hgw hF4))))))
        have c65 : (w4.setCell ⟨s1, 0, none⟩ (.slice A3 P0.length c3)).cell? ⟨s0, 0, none⟩ = some (.pointer (some ⟨q, 0, none⟩)) := (hP4.far (by show s0 ≠ s1; omega) _).cell' rfl
        have hT5 : Bl (w4.setCell ⟨s1, 0, none⟩ (.slice A3 P0.length c3)) q tStill _ := hT4.far (by show q ≠ s1; omega) _
        have cq5 : (w4.setCell ⟨s1, 0, none⟩ (.slice A3 P0.length c3)).cell? ⟨q, 3, none⟩ = some (.int .i64 0) := hT5.cell' rfl
        have zq5 := hT5.free 3
        clear hP hS hE hSt hO hg hF hO3 hg3 hf3 hf34 hP4 hS4 hE4 hT4 hO4 hO34 hF4 hgw hng hf4 hT5 ht c63
        go_wp2_with fail
        obtain ⟨hP4, hS4, hE4, hT4, hO34, hgw, hF4⟩ := HX.out
        have f1 : Fr (fun x => x = s1) w4 (w4.setCell ⟨s1, 0, none⟩ (.slice A3 P0.length c3)) := (Fr.refl _ _).setAt _
        have f2 : Fr (fun x => x = q) (w4.setCell ⟨s1, 0, none⟩ (.slice A3 P0.length c3)) ((w4.setCell ⟨s1, 0, none⟩ (.slice A3 P0.length c3)).setCell ⟨q, 3, none⟩ (.int .i64 (x0 : Int))) := (Fr.refl _ _).setAt _
        refine ⟨.inr (.inl ⟨rfl, ⟨A3, c3, g3, (hP4.fr f1 (by omega)).fr f2 (by omega), (hS4.set 0 _).fr f2 (by omega), (hE4.fr f1 (by omega)).fr f2 (by omega), (show Bl _ q tStill _ from (hT4.fr f1 (by omega))).set 3 _, (hO34.fr f1 (fun b e e2 => n1.2 (e2 ▸ e))).fr f2 (fun b e e2 => n3.2 (e2 ▸ e)), hgw, (hF4.comp f1 (fun b hb e => by have e2 : b = s1 := e; omega)).comp f2 (fun b hb e => by have e2 : b = q := e; omega)⟩⟩), by simp [intOf]⟩
      · have i7 : ¬ (0 : Int) < (x0 : Int) := by omega
        have HX := hide (And.intro hP4 (And.intro hS4 (And.intro hE4 (And.intro hT4 (And.intro hO4 (And.intro hg hF4))))))
        clear hP hS hE hSt hO hg hF hO3 hg3 hf3 hf34 hP4 hS4 hE4 hT4 hO4 hO34 hF4 hgw hng hf4 ht c63
        go_wp2_with fail
        obtain ⟨hP4, hS4, hE4, hT4, hO4, hg, hF4⟩ := HX.out
        have f2 : Fr (fun x => x = q) w4 (w4.setCell ⟨q, 3, none⟩ (.int .i64 (x0 : Int))) := (Fr.refl _ _).setAt _
        have eP : P0 = [] := by have h1 := standsN_zero (T := s.told) (fr := fr) (n := n) (k := 0) (by rw [Hr.out.1]; show x0 = 0; omega); rw [Hr.out.1] at h1; exact h1
        refine ⟨.inr (.inl ⟨rfl, by rw [eP]; exact ⟨A, c, g, hP4.fr f2 (by omega), hS4.fr f2 (by omega), hE4.fr f2 (by omega), (show Bl _ q tStill _ from hT4).set 3 _, hO4.fr f2 (fun b e e2 => n3.1 (e2 ▸ e)), hg, hF4.comp f2 (fun b hb e => by have e2 : b = q := e; omega)⟩⟩), by simp [intOf]⟩
    · obtain ⟨A, c, g, hP, hS, hE, hSt, hO, hg, hF⟩ := hO
      have hst : Calls Try.prog 26 #[.pointer (some ⟨q, 0, none⟩), .int .i64 1] wr (StandsOut wr (P1, x1)) := by
        rw [← Hr.out.2]; exact stands_any hSt (Hd.out wr hF) hf 1 (by omega) hn hb hlt
      have c6 : wr.cell? ⟨s0, 0, none⟩ = some (.pointer (some ⟨q, 0, none⟩)) := hP.cell' rfl
      have HO := hide (And.intro hP (And.intro hS (And.intro hE (And.intro hSt (And.intro hO (And.intro hg hF))))))
      clear hP hS hE hSt hO hg hF
      go_wp2_with fail
      refine hst.mono ?_
      rintro e w3 ⟨A3, c3, g3, rfl, hO3, hg3, hf3⟩
      obtain ⟨hP, hS, hE, hSt, hO, hg, hF⟩ := HO.out
      have ht : Calls Try.prog 15 #[.pointer (some ⟨q, 0, none⟩)] w3 fun e w' => e = .returned (.int .i64 (x0 : Int)) ∧ Fr (fun _ => False) w3 w' := by
        have := turn_any (hSt.fr hf3 id)
        rw [Nat.max_eq_left (Nat.zero_le _)] at this
        exact this
      have c63 : w3.cell? ⟨s0, 0, none⟩ = some (.pointer (some ⟨q, 0, none⟩)) := (hP.fr hf3 id).cell' rfl
      have H3 := hide (And.intro hO3 (And.intro hg3 hf3))
      have hsz3 : Hid (w.heap.size ≤ wr.heap.size) := hF.size
      clear hst c6 hP hS hE hSt hO hg hF hO3 hg3 hf3
      simp only []
      go_wp2_with fail
      refine ht.mono ?_
      rintro e w4 ⟨rfl, hf4⟩
      obtain ⟨hP, hS, hE, hSt, hO, hg, hF⟩ := HO.out
      obtain ⟨hO3, hg3, hf3⟩ := H3.out
      have hf34 := hf3.trans hf4
      have hP4 := hP.fr hf34 id
      have hS4 := hS.fr hf34 id
      have hE4 := hE.fr hf34 id
      have hT4 := hSt.fr hf34 id
      have hO4 := hO.fr hf34 (fun _ _ => id)
      have hO34 := hO3.fr hf4 (fun _ _ => id)
      have hF4 := hF.trans hf34
      have c64 : w4.cell? ⟨s0, 0, none⟩ = some (.pointer (some ⟨q, 0, none⟩)) := hP4.cell' rfl
      have cq : w4.cell? ⟨q, 4, none⟩ = some (.int .i64 0) := hT4.cell' rfl
      have zq := hT4.free 4
      have cs1 : w4.cell? ⟨s1, 0, none⟩ = some (.slice A P0.length c) := hS4.cell' rfl
      have zs1 := hS4.free 0
      have nq : s1 ≠ q ∧ s0 ≠ q ∧ s2 ≠ q := by have := Hqs.out; have := Hss.out; omega
      have hgw : ∀ b, g3 = some b → w.heap.size ≤ b := fun b e => by have := hg3 b e; have := hsz3.out; omega
      have hsw : w.heap.size ≤ s0 ∧ s0 < s1 ∧ s1 < s2 ∧ s2 < q := by have := Hs0.out; have := Hqs.out; have := Hss.out; omega
      have hng : ∀ b (cs : Array Value) t, Bl w4 b t cs → t ≠ tU8 → (g ≠ some b ∧ g3 ≠ some b) := fun b cs t hb ht => ⟨fun e => by
        have h1 := hO4
        rw [e] at h1
        obtain ⟨cs', hc⟩ := h1.ty
        exact ht (hb.same hc).2, fun e => by
        have h1 := hO34
        rw [e] at h1
        obtain ⟨cs', hc⟩ := h1.ty
        exact ht (hb.same hc).2⟩
      have n0 := hng _ _ _ hP4 (by decide)
      have n1 := hng _ _ _ hS4 (by decide)
      have n2 := hng _ _ _ hE4 (by decide)
      have n3 := hng _ _ _ hT4 (by decide)
      by_cases hgt : x0 < x1
      · have i7 : (x0 : Int) < (x1 : Int) := by omega
        have HX := hide (And.intro hP4 (And.intro hS4 (And.intro hE4 (And.intro hT4 (And.intro hO34 (And.intro hgw hF4))))))
        have c65 : (w4.setCell ⟨s1, 0, none⟩ (.slice A3 P1.length c3)).cell? ⟨s0, 0, none⟩ = some (.pointer (some ⟨q, 0, none⟩)) := (hP4.far (by show s0 ≠ s1; omega) _).cell' rfl
        have hT5 : Bl (w4.setCell ⟨s1, 0, none⟩ (.slice A3 P1.length c3)) q tStill _ := hT4.far (by show q ≠ s1; omega) _
        have cq5 : (w4.setCell ⟨s1, 0, none⟩ (.slice A3 P1.length c3)).cell? ⟨q, 4, none⟩ = some (.int .i64 0) := hT5.cell' rfl
        have zq5 := hT5.free 4
        clear hP hS hE hSt hO hg hF hO3 hg3 hf3 hf34 hP4 hS4 hE4 hT4 hO4 hO34 hF4 hgw hng hf4 hT5 ht c63
        go_wp2_with fail
        obtain ⟨hP4, hS4, hE4, hT4, hO34, hgw, hF4⟩ := HX.out
        have f1 : Fr (fun x => x = s1) w4 (w4.setCell ⟨s1, 0, none⟩ (.slice A3 P1.length c3)) := (Fr.refl _ _).setAt _
        have f2 : Fr (fun x => x = q) (w4.setCell ⟨s1, 0, none⟩ (.slice A3 P1.length c3)) ((w4.setCell ⟨s1, 0, none⟩ (.slice A3 P1.length c3)).setCell ⟨q, 4, none⟩ (.int .i64 (x1 : Int))) := (Fr.refl _ _).setAt _
        have eP : openP s.told fr n = P1 := by unfold openP; rw [Hr.out.1, Hr.out.2, if_pos hgt]
        refine ⟨.inr (.inr ⟨rfl, by rw [eP]; exact ⟨A3, c3, g3, (hP4.fr f1 (by omega)).fr f2 (by omega), (hS4.set 0 _).fr f2 (by omega), (hE4.fr f1 (by omega)).fr f2 (by omega), (show Bl _ q tStill _ from (hT4.fr f1 (by omega))).set 4 _, (hO34.fr f1 (fun b e e2 => n1.2 (e2 ▸ e))).fr f2 (fun b e e2 => n3.2 (e2 ▸ e)), hgw, (hF4.comp f1 (fun b hb e => by have e2 : b = s1 := e; omega)).comp f2 (fun b hb e => by have e2 : b = q := e; omega)⟩⟩), by simp [intOf]⟩
      · have i7 : ¬ ((x0 : Int) : Int) < (x1 : Int) := by omega
        have HX := hide (And.intro hP4 (And.intro hS4 (And.intro hE4 (And.intro hT4 (And.intro hO4 (And.intro hg hF4))))))
        clear hP hS hE hSt hO hg hF hO3 hg3 hf3 hf34 hP4 hS4 hE4 hT4 hO4 hO34 hF4 hgw hng hf4 ht c63
        go_wp2_with fail
        obtain ⟨hP4, hS4, hE4, hT4, hO4, hg, hF4⟩ := HX.out
        have f2 : Fr (fun x => x = q) w4 (w4.setCell ⟨q, 4, none⟩ (.int .i64 (x1 : Int))) := (Fr.refl _ _).setAt _
        have eP : openP s.told fr n = P0 := by unfold openP; rw [Hr.out.1, Hr.out.2, if_neg hgt]
        refine ⟨.inr (.inr ⟨rfl, by rw [eP]; exact ⟨A, c, g, hP4.fr f2 (by omega), hS4.fr f2 (by omega), hE4.fr f2 (by omega), (show Bl _ q tStill _ from hT4).set 4 _, hO4.fr f2 (fun b e e2 => n3.1 (e2 ▸ e)), hg, hF4.comp f2 (fun b hb e => by have e2 : b = q := e; omega)⟩⟩), by simp [intOf]⟩
    · obtain ⟨A, c, g, hP, hS, hE, hSt, hO, hg, hF⟩ := hO
      obtain ⟨R, hR⟩ : ∃ R, openP s.told fr n = R := ⟨_, rfl⟩
      rw [hR] at hS hO
      have HR := hide hR
      have c6 : wr.cell? ⟨s0, 0, none⟩ = some (.pointer (some ⟨q, 0, none⟩)) := hP.cell' rfl
      have c7 : wr.cell? ⟨s1, 0, none⟩ = some (.slice A R.length c) := hS.cell' rfl
      have c8 : wr.cell? ⟨s2, 0, none⟩ = some (.int .i64 0) := hE.cell' rfl
      have z6 := hP.free 0
      have z7 := hS.free 0
      have z8 := hE.free 0
      have nq : s0 ≠ s1 ∧ s0 ≠ s2 ∧ s1 ≠ s2 ∧ s1 ≠ s0 ∧ s2 ≠ s0 ∧ s2 ≠ s1 := by have := Hss.out; omega
      obtain ⟨n1, n2, n3, n4, n5, n6⟩ := nq
      have HO := hide (And.intro hP (And.intro hS (And.intro hE (And.intro hSt (And.intro hO (And.intro hg hF))))))
      clear hP hS hE hSt hO hg hF hR
      go_wp2_with fail
      go_region
      go_wp2_with fail
      obtain ⟨hP, hS, hE, hSt, hO, hg, hF⟩ := HO.out
      have f1 : Fr (fun x => x = s0 ∨ x = s1 ∨ x = s2) wr (((wr.setCell ⟨s0, 0, none⟩ (.pointer (some ⟨q, 0, none⟩))).setCell ⟨s1, 0, none⟩ (.slice A R.length c)).setCell ⟨s2, 0, none⟩ (.int .i64 0)).drew := ((((Fr.refl _ _).setIn (.inl (.inl rfl)) _).setIn (.inl (.inr (.inl rfl))) _).setIn (.inl (.inr (.inr rfl))) _).drew
      have hP5 : Bl (((wr.setCell ⟨s0, 0, none⟩ (.pointer (some ⟨q, 0, none⟩))).setCell ⟨s1, 0, none⟩ (.slice A R.length c)).setCell ⟨s2, 0, none⟩ (.int .i64 0)).drew s0 tPSt #[.pointer (some ⟨q, 0, none⟩)] := (((hP.set 0 _).far n1 _).far n2 _).drew
      have hS5 : Bl (((wr.setCell ⟨s0, 0, none⟩ (.pointer (some ⟨q, 0, none⟩))).setCell ⟨s1, 0, none⟩ (.slice A R.length c)).setCell ⟨s2, 0, none⟩ (.int .i64 0)).drew s1 tBs #[.slice A R.length c] := (((hS.far n4 _).set 0 _).far n3 _).drew
      have hE5 : Bl (((wr.setCell ⟨s0, 0, none⟩ (.pointer (some ⟨q, 0, none⟩))).setCell ⟨s1, 0, none⟩ (.slice A R.length c)).setCell ⟨s2, 0, none⟩ (.int .i64 0)).drew s2 tEn #[.int .i64 0] := (((hE.far n5 _).far n6 _).set 0 _).drew
      generalize (((wr.setCell ⟨s0, 0, none⟩ (.pointer (some ⟨q, 0, none⟩))).setCell ⟨s1, 0, none⟩ (.slice A R.length c)).setCell ⟨s2, 0, none⟩ (.int .i64 0)).drew = W at f1 hP5 hS5 hE5 ⊢
      have k6 : W.cell? ⟨s0, 0, none⟩ = some (.pointer (some ⟨q, 0, none⟩)) := hP5.cell' rfl
      have k7 : W.cell? ⟨s1, 0, none⟩ = some (.slice A R.length c) := hS5.cell' rfl
      have k8 : W.cell? ⟨s2, 0, none⟩ = some (.int .i64 0) := hE5.cell' rfl
      have hsw : w.heap.size ≤ s0 ∧ s0 < s1 ∧ s1 < s2 ∧ s2 < q := by have := Hs0.out; have := Hqs.out; have := Hss.out; omega
      have hng : ∀ b (cs : Array Value) t, Bl wr b t cs → t ≠ tU8 → g ≠ some b := fun b cs t hb ht => fun e => by
        have h1 := hO
        rw [e] at h1
        obtain ⟨cs', hc⟩ := h1.ty
        exact ht (hb.same hc).2
      have hfin : OpenOut w s.told p fr n (.returned (.tuple #[.pointer (some ⟨q, 0, none⟩), .slice A R.length c, .int .i64 0])) W := by
        refine ⟨q, A, c, g, by rw [HR.out], ?_, ?_, hg, by omega, hF.comp f1 fun b hb e => by rcases e with e | e | e <;> omega⟩
        · rw [Hr.out.1, Hr.out.2]
          exact hSt.fr f1 (by omega)
        · rw [HR.out]
          exact hO.fr f1 fun b e e2 => by
            rcases e2 with rfl | rfl | rfl
            · exact hng _ _ _ hP (by decide) e
            · exact hng _ _ _ hS (by decide) e
            · exact hng _ _ _ hE (by decide) e
      refine leaves_cons (f := 24) (args := #[.pointer (some ⟨s0, 0, none⟩), .pointer (some ⟨s1, 0, none⟩), .pointer (some ⟨s2, 0, none⟩)]) (by simp) (by simp [go_sem]) ?_
      refine (open_left _ _ _ _).mono ?_
      rintro e u' w'' ⟨rfl, rfl, rfl⟩
      have HFin := hide hfin
      clear hP hS hE hSt hO hg hF f1 hP5 hS5 hE5 hfin hng HO
      simp [Leaves, settle, results, Try.results10, go_sem, k6, k7, k8]
      exact HFin.out
end
end Go.Proofs.Ytchajbiloaiekaa
