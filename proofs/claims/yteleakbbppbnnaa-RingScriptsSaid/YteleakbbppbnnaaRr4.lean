/-
  bazaarref10.Move; two of the document's rings that stand apart.
-/
import Derived.Test.YteleakbbppbnnaaRr3
namespace Go.Proofs.Yteleakbbppbnnaa
open Go.RowKit
set_option linter.unusedVariables false
/-- Two rings of the document that stand apart. -/
structure RDuo (w : World) (p : Nat) (gp : Option Nat) (rp : Nat) (xs : List Int) (q : Nat) (gq : Option Nat) (rq : Nat) (ys : List Int) : Prop where
  a : RefI w p gp rp xs
  b : RefI w q gq rq ys
  ap : ∀ b, rfoot p gp b → ¬ rfoot q gq b
/-- A list's block behind a call: as it was, none, or a new one. -/
def Newer (w : World) (g g' : Option Nat) : Prop := g' = g ∨ g' = none ∨ ∃ b, g' = some b ∧ w.heap.size ≤ b
theorem Newer.foot {w : World} {q : Nat} {g g' : Option Nat} (h : Newer w g g') {b : Nat} (hb : b < w.heap.size) (hf : rfoot q g' b) : rfoot q g b := by
  rcases hf with e | e
  · exact .inl e
  · rcases h with rfl | rfl | ⟨x, rfl, hx⟩
    · exact .inr e
    · cases e
    · cases e; omega
def RDuoOut (w : World) (p : Nat) (gp : Option Nat) (rp : Nat) (xs : List Int) (q : Nat) (gq : Option Nat) (rq : Nat) (ys : List Int) (w' : World) : Prop :=
  ∃ gp' gq', RDuo w' p gp' rp xs q gq' rq ys ∧ Fr (fun b => rfoot p gp b ∨ rfoot q gq b) w w' ∧ ∀ b, b < w.heap.size → rfoot p gp' b ∨ rfoot q gq' b → rfoot p gp b ∨ rfoot q gq b
section
variable {w w' w1 w2 : World} {p : Nat} {gp gp1 : Option Nat} {rp : Nat} {xs xs' : List Int} {q : Nat} {gq gq1 : Option Nat} {rq : Nat} {ys ys' : List Int}
theorem RDuo.swap (h : RDuo w p gp rp xs q gq rq ys) : RDuo w q gq rq ys p gp rp xs := ⟨h.b, h.a, fun b h1 h2 => h.ap b h2 h1⟩
theorem RDuoOut.swap (h : RDuoOut w p gp rp xs q gq rq ys w') : RDuoOut w q gq rq ys p gp rp xs w' := by
  obtain ⟨g1, g2, h, hf, hn⟩ := h
  exact ⟨g2, g1, h.swap, hf.mono fun _ _ e => e.symm, fun b hb e => (hn b hb e.symm).symm⟩
theorem RDuo.left (h : RDuo w p gp rp xs q gq rq ys) (ho : RefOut w p gp rp xs' w') : RDuoOut w p gp rp xs' q gq rq ys w' := by
  obtain ⟨g', hI, hf, hg⟩ := ho
  have hn : ∀ b, b < w.heap.size → rfoot p g' b → rfoot p gp b := fun b hb hf => Newer.foot hg hb hf
  refine ⟨g', gq, ⟨hI, h.b.fr hf (fun b hb e => h.ap b e hb), fun b h1 h2 => ?_⟩, hf.mono fun _ _ e => .inl e, fun b hb e => ?_⟩
  · exact h.ap b (hn b (h.b.lt h2) h1) h2
  · rcases e with e | e
    · exact .inl (hn b hb e)
    · exact .inr e
theorem RDuo.right (h : RDuo w p gp rp xs q gq rq ys) (ho : RefOut w q gq rq ys' w') : RDuoOut w p gp rp xs q gq rq ys' w' := (h.swap.left ho).swap
theorem RDuoOut.refl (h : RDuo w p gp rp xs q gq rq ys) (hf : Fr (fun _ => False) w w') : RDuoOut w p gp rp xs q gq rq ys w' :=
  ⟨gp, gq, ⟨h.a.fr hf (fun _ _ => id), h.b.fr hf (fun _ _ => id), h.ap⟩, hf.weak _, fun _ _ e => e⟩
theorem RDuoOut.more (hf : Fr (fun b => rfoot p gp b ∨ rfoot q gq b) w w1) (hn : ∀ b, b < w.heap.size → rfoot p gp1 b ∨ rfoot q gq1 b → rfoot p gp b ∨ rfoot q gq b) (h : RDuoOut w1 p gp1 rp xs q gq1 rq ys w2) : RDuoOut w p gp rp xs q gq rq ys w2 := by
  obtain ⟨g1, g2, h, hf2, hn2⟩ := h
  exact ⟨g1, g2, h, hf.comp hf2 hn, fun b hb e => hn b hb (hn2 b (Nat.lt_of_lt_of_le hb hf.size) e)⟩
end
theorem infoRef : (Try.prog.info? tRef).map (fun i => (i.zero, i.size, i.bytes)) = some (some (.agg #[.int .i64 0, .slice none 0 0]), 2, 32) := by kernel_rfl
theorem rptr_other (w : World) {p q : Nat} {cs ds : Array Value} (hp : Bl w p tRef cs) (hq : Bl w q tRef ds) (h : p ≠ q) :
    Sem.run Try.prog (binOp .eql 49 (.pointer (some ⟨p, 0, none⟩)) (.pointer (some ⟨q, 0, none⟩))) w = .ok (.bool false) w := by
  obtain ⟨i, hi, h0, h1, h2⟩ := info_parts infoRef
  exact run_eql_ptr_other w Try.underlying49 hi (by rw [h1]; decide) (fun e => h (by injection e)) hp hq
def RMoving (w : World) (p : Nat) (gp : Option Nat) (rp : Nat) (xs : List Int) (q : Nat) (gq : Option Nat) (rq : Nat) (ys : List Int) (k : Nat) (i : Value) (wr : World) : Prop :=
  ∃ j : Nat, i = .int .i64 (j : Int) ∧ j ≤ k ∧ RDuoOut w p gp rp (xs.drop j) q gq rq (ys ++ xs.take j) wr
set_option maxHeartbeats 2000000 in
set_option maxRecDepth 4000 in
theorem rmove_ok {p : Nat} {gp : Option Nat} {rp : Nat} {xs : List Int} {q : Nat} {gq : Option Nat} {rq : Nat} {ys : List Int} (w : World) (h : RDuo w p gp rp xs q gq rq ys) (n : Int) (hn : 0 ≤ n) (hb1 : xs.length ≤ 65536) (hb2 : ys.length ≤ rq) (hb3 : rq ≤ 65536) (k : Nat) (hk : k = min n.toNat (min xs.length (rq - ys.length))) :
    Calls Try.prog 37 #[.pointer (some ⟨p, 0, none⟩), .pointer (some ⟨q, 0, none⟩), .int .i64 n] w fun e w' => e = .returned (.tuple #[.int .i64 (k : Int), .int .i64 0]) ∧ RDuoOut w p gp rp (xs.drop k) q gq rq (ys ++ xs.take k) w' := by
  obtain ⟨j0, hj, hj0, hj1, hj2⟩ := info_parts infoInt
  have hpq : p ≠ q := fun e => h.ap p (.inl rfl) (by rw [e]; exact .inl rfl)
  have hcmp : Sem.run Try.prog (binOp .eql 49 (.pointer (some ⟨p, 0, none⟩)) (.pointer (some ⟨q, 0, none⟩))) w = .ok (.bool false) w := by
    obtain ⟨_, _, h1, _⟩ := h.a
    obtain ⟨_, _, h2, _⟩ := h.b
    exact rptr_other w h1 h2 hpq
  have H := hide h
  obtain ⟨nx, hnx⟩ : ∃ nx, xs.length = nx := ⟨_, rfl⟩
  obtain ⟨ny, hny⟩ : ∃ ny, ys.length = ny := ⟨_, rfl⟩
  rw [hnx] at hb1 hk
  rw [hny] at hb2 hk
  have HX := hide hnx
  have HY := hide hny
  have hk1 : k ≤ nx := by omega
  have hk2 : ny + k ≤ rq := by omega
  have hk3 : (k : Int) ≤ n := by omega
  have HK := hide hk
  clear h hnx hny hk
  go_enter Try.func37, Try.ntmps37
  go_wp2_with fail
  go_loopw [8] (fun i wr => RMoving w p gp rp xs q gq rq ys k i wr) (fun i _ => k - (intOf i).toNat)
  case atStart => exact ⟨0, rfl, Nat.zero_le _, by rw [List.drop_zero, List.take_zero, List.append_nil]; exact RDuoOut.refl H.out (Fr.refl _ _)⟩
  case round =>
    obtain ⟨j, rfl, hjk, g1, g2, hD, hF, hN⟩ := hrel
    obtain ⟨LA, ca, a1, a2⟩ := hD.a
    obtain ⟨LB, cb, b1, b2⟩ := hD.b
    have ea : (xs.drop j).length = nx - j := by rw [List.length_drop, HX.out]
    have eb : (ys ++ xs.take j).length = ny + j := by rw [List.length_append, List.length_take, HX.out, HY.out]; omega
    rw [ea] at a1 a2
    rw [eb] at b1 b2
    have c1 : wr.cell? ⟨p, 1, none⟩ = some (.slice LA (nx - j) ca) := a1.cell' rfl
    have d0 : wr.cell? ⟨q, 0, none⟩ = some (.int .i64 (rq : Int)) := b1.cell' rfl
    have d1 : wr.cell? ⟨q, 1, none⟩ = some (.slice LB (ny + j) cb) := b1.cell' rfl
    obtain ⟨ta, hta⟩ : ∃ ta, nx - j = ta := ⟨_, rfl⟩
    obtain ⟨tb, htb⟩ : ∃ tb, ny + j = tb := ⟨_, rfl⟩
    rw [hta] at c1 a1 a2
    rw [htb] at d1 b1 b2
    have HD := hide hD
    have HFN := hide (And.intro hF hN)
    have HT := hide (And.intro hta htb)
    by_cases hlt : j < k
    · have i1 : (j : Int) < n := by omega
      have i2 : (0 : Int) < (ta : Int) := by omega
      have i3 : (tb : Int) < (rq : Int) := by omega
      have b1' : decide ((j : Int) < n) = true := decide_eq_true i1
      have b2' : decide (0 < ta) = true := decide_eq_true (by omega)
      have b3' : decide (tb < rq) = true := decide_eq_true (by omega)
      have b4' : decide ((0 : Int) < (ta : Int)) = true := decide_eq_true i2
      have b5' : decide ((tb : Int) < (rq : Int)) = true := decide_eq_true i3
      obtain ⟨x, hx⟩ : ∃ x, xs[j]? = some x := ⟨_, List.getElem?_eq_getElem (by have := HX.out; omega)⟩
      have hdr : xs.drop j = x :: xs.drop (j + 1) := by
        obtain ⟨h1, h2⟩ := List.getElem?_eq_some_iff.1 hx
        rw [← h2]; exact List.drop_eq_getElem_cons h1
      have hpop := fun w' (hf : Fr (fun _ => False) wr w') => rpop_any w' (hD.a.fr hf (fun _ _ => id)) (by rw [ea]; omega)
      simp only [ea, hta, decide_eq_true (show 0 < ta by omega), List.drop_drop, show (xs.drop j).headD 0 = x by rw [hdr]; rfl] at hpop
      replace hpop := hide hpop
      have HXJ := hide (show ys ++ xs.take (j + 1) = ys ++ xs.take j ++ [x] by rw [List.take_add_one, hx, List.append_assoc]; rfl)
      clear hx hdr hD hF hN ea eb hta htb a1 a2 b1 b2
      go_wp2_with fail
      go_quiet (fail)
      go_wp2_with fail
      have hq0 : Fr (fun _ => False) wr (wr.drewN nq) := (Fr.refl _ _).drewN nq
      refine (hpop.out _ hq0).mono ?_
      rintro e w2 ⟨rfl, hK2⟩
      have hD2 := (RDuo.mk (HD.out.a.fr hq0 (fun _ _ => id)) (HD.out.b.fr hq0 (fun _ _ => id)) HD.out.ap).left (RefKeep.out hK2)
      obtain ⟨g3, g4, hD3, hF3, hN3⟩ := hD2
      obtain ⟨LC, cc, e1, e2⟩ := hD3.b
      have eb : (ys ++ xs.take j).length = tb := by rw [List.length_append, List.length_take, HX.out, HY.out, ← HT.out.2]; omega
      rw [eb] at e1 e2
      have d2 : w2.cell? ⟨q, 1, none⟩ = some (.slice LC tb cc) := e1.cell' rfl
      have hO : Ow (w2.alloc (.cells #[.int .i64 x] 3)) 3 1 LC tb cc ((ys ++ xs.take j).map iv) g4 := e2.fr (S := fun _ => False) ((Fr.refl _ _).alloc _) (fun _ _ => id)
      have HD3 := hide (And.intro hD3 (And.intro hF3 (And.intro hN3 e1)))
      clear hpop hK2 hD3 hF3 hN3 e1 e2 eb c1 d0 d1 hcmp
      go_wp2_with (at_builtin; go_loud (refine wpList_append_ow _ rfl _ _ 22 rfl 3 j0 (.int .i64 0) 1 8 Try.underlying22 hj hj0 hj1 hj2 rfl (by decide) _ _ _ _ _ rfl hO _ _ _ [.int .i64 x] rfl (sl_one _ _ _) (by intro u hu; simp at hu; subst hu; rfl) (by unfold maxLen; omega) (by omega) ?_))
      intro A4 c4 w4 g5 hO4 hf4 hg4
      obtain ⟨hD3, hF3, hN3, hB3⟩ := HD3.out
      have hlq : q < w2.heap.size := hB3.lt
      have hB4 : Bl w4 q tRef #[.int .i64 (rq : Int), .slice LC tb cc] := (hB3.fr (S := fun _ => False) ((Fr.refl _ _).alloc _) id).fr hf4 (fun e => hD3.b.ne e.symm)
      have z4 := hB4.free 1
      have d4 : w4.cell? ⟨q, 1, none⟩ = some (.slice LC tb cc) := hB4.cell' rfl
      have H4 := hide (And.intro hO4 (And.intro hf4 (And.intro hg4 hB4)))
      have HQ0 := hide hq0
      clear hO4 hf4 hg4 hD3 hF3 hN3 hB3 hB4 hO d2 hq0
      go_wp2_with fail
      refine ⟨⟨j + 1, by go_num, hlt, ?_⟩, by simp [intOf]; omega⟩
      obtain ⟨hD3, hF3, hN3, hB3⟩ := HD3.out
      obtain ⟨hO4, hf4, hg4, hB4⟩ := H4.out
      have hset : Fr (fun k => k = q) w4 (w4.setCell ⟨q, 1, none⟩ (.slice A4 (tb + 1) c4)) := (Fr.refl _ _).setAt _
      have hal : Fr (fun _ => False) w2 (w2.alloc (.cells #[.int .i64 x] 3)) := (Fr.refl _ _).alloc _
      have hlen : (ys ++ xs.take j ++ [x]).length = tb + 1 := by rw [List.length_append, List.length_append, List.length_take, HX.out, HY.out, ← HT.out.2]; simp; omega
      have hout : RefOut w2 q g4 rq (ys ++ xs.take (j + 1)) (w4.setCell ⟨q, 1, none⟩ (.slice A4 (tb + 1) c4)) := by
        rw [HXJ.out]
        refine ⟨g5, ⟨A4, c4, by rw [hlen]; exact hB4.set 1 _, ?_⟩, ?_, ?_⟩
        · have e9 : (ys ++ xs.take j ++ [x]).map iv = List.map iv ys ++ (List.take j (List.map iv xs) ++ [Value.int IntKind.i64 x]) := by
            rw [List.map_append, List.map_append, List.map_take, List.append_assoc]; rfl
          rw [hlen, e9]
          exact hO4.fr hset (fun b e e2 => by
            rw [e, e2] at hO4
            obtain ⟨cs, hc⟩ := hO4.ty
            exact absurd (hB4.same hc).2 (by decide))
        · exact ((hal.weak (rfoot q g4)).comp hf4 (fun i hi e => .inr e)).comp hset (fun i hi e => .inl e)
        · rcases hg4 with e | ⟨b, e, hb⟩
          · exact .inl e
          · exact .inr (.inr ⟨b, e, by have := hal.size; omega⟩)
      have h5 := hD3.right hout
      have h6 : RDuoOut (wr.drewN nq) p g1 rp (xs.drop (j + 1)) q g2 rq (ys ++ xs.take (j + 1)) (w4.setCell ⟨q, 1, none⟩ (.slice A4 (tb + 1) c4)) := RDuoOut.more hF3 hN3 h5
      exact RDuoOut.more HFN.out.1 HFN.out.2 (RDuoOut.more (HQ0.out.weak _) (fun b hb e => e) h6)
    · obtain rfl : j = k := by omega
      have hend : n ≤ (j : Int) ∨ ta = 0 ∨ rq ≤ tb := by have := HK.out; have := HT.out; omega
      clear hD hF hN ea eb hta htb a1 a2 b1 b2 hcmp
      by_cases e1 : (j : Int) < n
      · have b1' : decide ((j : Int) < n) = true := decide_eq_true e1
        by_cases e2 : ta = 0
        · subst e2
          have b2' : decide ((0 : Nat) < 0) = false := rfl
          go_wp2_with fail
          go_quiet (fail)
          go_wp2_with fail
          go_ret2
          exact ⟨rfl, RDuoOut.more HFN.out.1 HFN.out.2 (RDuoOut.refl HD.out ((Fr.refl _ _).drewN nq))⟩
        · have e3 : ¬ (tb : Int) < (rq : Int) := by omega
          have e4 : (0 : Int) < (ta : Int) := by omega
          have b2' : decide (0 < ta) = true := decide_eq_true (by omega)
          have b3' : decide (tb < rq) = false := decide_eq_false (by omega)
          have b4' : decide ((0 : Int) < (ta : Int)) = true := decide_eq_true e4
          have b5' : decide ((tb : Int) < (rq : Int)) = false := decide_eq_false e3
          go_wp2_with fail
          go_quiet (fail)
          go_wp2_with fail
          go_ret2
          exact ⟨rfl, RDuoOut.more HFN.out.1 HFN.out.2 (RDuoOut.refl HD.out ((Fr.refl _ _).drewN nq))⟩
      · have b1' : decide ((j : Int) < n) = false := decide_eq_false e1
        go_wp2_with fail
        go_quiet (fail)
        go_wp2_with fail
        go_ret2
        exact ⟨rfl, RDuoOut.more HFN.out.1 HFN.out.2 (RDuoOut.refl HD.out ((Fr.refl _ _).drewN nq))⟩
end Go.Proofs.Yteleakbbppbnnaa
