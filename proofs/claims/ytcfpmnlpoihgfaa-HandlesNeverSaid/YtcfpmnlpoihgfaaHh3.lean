/-
  container/heap over the free places: down, up, Pop, Push.
-/
import Derived.Test.YtcfpmnlpoihgfaaHh2
import Derived.Deep.CutBlock
import Derived.Deep.RegionLaw
namespace Go.Proofs.Ytcfpmnlpoihgfaa
open Go.RowKit
set_option linter.unusedVariables false
set_option linter.unusedSimpArgs false
attribute [local go_sem] method_len method_less method_swap method_pop method_push
/-- The free places of the table at block p. -/
structure FAt (w : World) (p : Nat) (A : Option Addr) (n c : Nat) (g : Option Nat) (xs : List Nat) : Prop where
  cell : w.cell? ⟨p, 2, none⟩ = some (.slice A n c)
  free : w.frozen? ⟨p, 2, none⟩ = false
  ow : Ow w 3 1 A n c (xs.map ix) g
  off : g ≠ some p
theorem FAt.len {w : World} {p : Nat} {A : Option Addr} {n c : Nat} {g : Option Nat} {xs : List Nat} (h : FAt w p A n c g xs) : xs.length = n := by have := h.ow.1; simpa using this
theorem FAt.step {w w' : World} {p : Nat} {A : Option Addr} {n c : Nat} {g : Option Nat} {xs : List Nat} (h : FAt w p A n c g xs) (hf : Fr (fun _ => False) w w') : FAt w' p A n c g xs :=
  ⟨(hf.cell (World.block_lt_of_cell? w _ h.cell) id).trans h.cell, (hf.frozen (World.block_lt_of_cell? w _ h.cell) id).trans h.free, h.ow.fr hf (fun _ _ => id), h.off⟩
theorem FAt.turn {w w' : World} {p : Nat} {A : Option Addr} {n c : Nat} {g : Option Nat} {xs ys : List Nat} (h : FAt w p A n c g xs) (hO : Ow w' 3 1 A n c (ys.map ix) g) (hf : Fr (fun k => g = some k) w w') : FAt w' p A n c g ys :=
  ⟨(hf.cell (World.block_lt_of_cell? w _ h.cell) h.off).trans h.cell, (hf.frozen (World.block_lt_of_cell? w _ h.cell) h.off).trans h.free, hO, h.off⟩
/-- Behind a call that sets the first n right. -/
structure SetPost (w : World) (p : Nat) (A : Option Addr) (N c : Nat) (g : Option Nat) (xs : List Nat) (n : Nat) (ys : List Nat) (w' : World) : Prop where
  at_ : FAt w' p A N c g ys
  perm : ys.Perm xs
  heap : HeapN ys n
  rest : ∀ k, n ≤ k → ys.getD k 0 = xs.getD k 0
  fr : Fr (fun k => g = some k) w w'
def DownPost (w : World) (p : Nat) (A : Option Addr) (N c : Nat) (g : Option Nat) (xs : List Nat) (n : Nat) (e : Ending) (w' : World) : Prop := ∃ b ys, e = .returned (.bool b) ∧ SetPost w p A N c g xs n ys w'
abbrev hpV (p : Nat) : Value := .iface 80 (.pointer (some ⟨p, 2, none⟩))
set_option maxHeartbeats 4000000 in
set_option maxRecDepth 8000 in
theorem down_any {w : World} {p : Nat} {A : Option Addr} {N c : Nat} {g : Option Nat} {xs : List Nat} (h : FAt w p A N c g xs) (n : Nat) (hn : n ≤ N) (hN : N ≤ 65536) (hd : DownAt xs n 0) :
    Calls Try.prog 51 #[hpV p, .int .i64 0, .int .i64 (n : Int)] w (DownPost w p A N c g xs n) := by
  have H := hide h
  have Hd := hide hd
  clear h hd
  go_enter Try.func51, Try.ntmps51
  go_wp2_with fail
  go_loopw [7] (fun v wr => ∃ (i : Nat) (ys : List Nat), i ≤ n ∧ v = .int .i64 i ∧ Hid (FAt wr p A N c g ys) ∧ Hid (ys.Perm xs ∧ DownAt ys n i ∧ (∀ k, n ≤ k → ys.getD k 0 = xs.getD k 0)) ∧ Hid (Fr (fun k => g = some k) w wr)) (fun v _ => n - (intOf v).toNat)
  case atStart => exact ⟨0, xs, Nat.zero_le _, rfl, H.out, ⟨List.Perm.refl _, Hd.out, fun _ _ => rfl⟩, Fr.refl _ _⟩
  case round =>
    clear H
    obtain ⟨w2, rfl⟩ : ∃ w2, w2 = wr := ⟨_, rfl⟩
    obtain ⟨i, ys, hin, rfl, HF, HP, Hf⟩ := hrel
    have hlen := HF.out.len
    have q1 : IntKind.i64.wrap (2 * (i : Int)) = 2 * (i : Int) := IntWalk.i64_in _ (by omega)
    obtain ⟨j1, hj1⟩ : ∃ j1, 2 * i + 1 = j1 := ⟨_, rfl⟩
    have q2 : IntKind.i64.wrap (2 * (i : Int) + 1) = (j1 : Int) := by rw [IntWalk.i64_in _ (by omega)]; omega
    have q3 : ¬ (j1 : Int) < 0 := by omega
    by_cases hlt : n ≤ j1
    · have i1 : (n : Int) ≤ (j1 : Int) := by omega
      have hend : HeapN ys n := down_end HP.out.2.1 (fun k h0 hk e => by omega)
      have Hend := hide hend
      clear hend hlen hj1
      go_wp2_with fail
      go_ret
      exact ⟨_, ys, rfl, ⟨HF.out, HP.out.1, Hend.out, HP.out.2.2, Hf.out⟩⟩
    · have i1 : ¬ (n : Int) ≤ (j1 : Int) := by omega
      obtain ⟨j2, hj2⟩ : ∃ j2, j1 + 1 = j2 := ⟨_, rfl⟩
      have q4 : IntKind.i64.wrap ((j1 : Int) + 1) = (j2 : Int) := by rw [IntWalk.i64_in _ (by omega)]; omega
      obtain ⟨j, hj⟩ : ∃ j, (if j2 < n ∧ ys.getD j2 0 < ys.getD j1 0 then j2 else j1) = j := ⟨_, rfl⟩
      have hjn : j < n ∧ 0 < j ∧ (j - 1) / 2 = i := by rw [← hj]; split <;> omega
      have hmin : ∀ k, 0 < k → k < n → (k - 1) / 2 = i → ys.getD j 0 ≤ ys.getD k 0 := fun k h0 hk e => by
        have hk2 : k = j1 ∨ k = j2 := by omega
        rw [← hj]
        split
        · rename_i h; rcases hk2 with rfl | rfl
          · omega
          · exact Nat.le_refl _
        · rename_i h; rcases hk2 with rfl | rfl
          · exact Nat.le_refl _
          · exact Nat.le_of_not_lt (fun e => h ⟨hk, e⟩)
      have Hmin := hide hmin
      have Hjn := hide hjn
      have hc := HF.out.cell
      have hN0 : N = N := rfl
      clear hmin
      go_upto_region 6 with fail
      go_cut [33] (fun v wx => v = .bool (decide (j2 < n ∧ ys.getD j2 0 < ys.getD j1 0)) ∧ Fr (fun _ => False) w2 wx)
      case first =>
        by_cases h2 : j2 < n
        · have i2 : (j2 : Int) < (n : Int) := by omega
          clear hj hjn hj1 hj2 hN0
          go_wp2_with fail
          refine (less_any w2 ys A N c g HF.out.ow j2 j1 (by omega) (by omega)).mono ?_
          rintro e w3 ⟨rfl, hf3⟩
          have Hf3 := hide hf3
          have e2 : decide (j2 < n ∧ ys.getD j2 0 < ys.getD j1 0) = decide (ys.getD j2 0 < ys.getD j1 0) := decide_eq_decide.2 ⟨fun h => h.2, fun h => ⟨h2, h⟩⟩
          have E2 := hide e2
          obtain ⟨bb, hbb⟩ : ∃ bb, decide (ys.getD j2 0 < ys.getD j1 0) = bb := ⟨_, rfl⟩
          rw [hbb]
          have Hbb := hide hbb
          clear hf3 e2 hbb
          go_wp2_with fail
          go_meet
          case rel => exact ⟨by rw [E2.out, Hbb.out], Hf3.out⟩
        · have i2 : ¬ (j2 : Int) < (n : Int) := by omega
          have e2 : decide (j2 < n ∧ ys.getD j2 0 < ys.getD j1 0) = false := decide_eq_false (fun h => h2 h.1)
          have E2 := hide e2
          clear hj hjn hj1 hj2 hN0 e2
          go_wp2_with fail
          go_meet
          case rel => exact ⟨by rw [E2.out], Fr.refl _ _⟩
      case rest =>
        obtain ⟨rfl, hfc⟩ := hcut
        obtain ⟨w3, rfl⟩ : ∃ w3, w3 = wc := ⟨_, rfl⟩
        have HF3 := hide (HF.out.step hfc)
        have Hf3 := hide (Hf.out.trans (hfc.weak _))
        have hc3 := HF3.out.cell
        clear hfc HF Hf hc
        go_upto_if 33 with fail
        go_cut [9] (fun v wx => v = .int .i64 (j : Int) ∧ wx = w3)
        case first =>
          by_cases h2 : j2 < n ∧ ys.getD j2 0 < ys.getD j1 0
          · rw [if_pos h2] at hj
            rw [decide_eq_true h2]
            subst hj
            clear h2
            go_wp2_with fail
            go_meet
            case rel => exact ⟨rfl, rfl⟩
          · rw [if_neg h2] at hj
            rw [decide_eq_false h2]
            subst hj
            clear h2
            go_wp2_with fail
            go_meet
            case rel => exact ⟨rfl, rfl⟩
        case rest =>
          obtain ⟨rfl, hwc⟩ := hcut
          obtain rfl := hwc.symm
          clear hj
          go_wp2_with fail
          refine (less_any w3 ys A N c g HF3.out.ow j i (by omega) (by omega)).mono ?_
          rintro e w4 ⟨rfl, hf4⟩
          have HF4 := hide (HF3.out.step hf4)
          have Hf4 := hide (Hf3.out.trans (hf4.weak _))
          have hc4 := HF4.out.cell
          clear hf4 HF3 Hf3 hc3
          by_cases hl : ys.getD j 0 < ys.getD i 0
          · rw [decide_eq_true hl]
            go_wp2_with fail
            refine (swap_any w4 ys A N c g HF4.out.ow i j (by omega) (by omega)).mono ?_
            rintro e w5 ⟨rfl, hO5, hf5⟩
            have HF5 := hide (HF4.out.turn hO5 hf5)
            have Hf5 := hide (Hf4.out.trans hf5)
            have hnext : (swp ys i j).Perm xs ∧ DownAt (swp ys i j) n j ∧ (∀ k, n ≤ k → (swp ys i j).getD k 0 = xs.getD k 0) := by
              refine ⟨(swp_perm (by omega) (by omega)).trans HP.out.1, down_step HP.out.2.1 (by omega) (by omega) ⟨hjn.2.1, hjn.2.2⟩ hl Hmin.out, fun k hk => ?_⟩
              rw [swp_at (by omega) (by omega), if_neg (by omega), if_neg (by omega)]
              exact HP.out.2.2 k hk
            have Hnext := hide hnext
            clear hO5 hf5 hnext hl hc4 HF4 Hf4
            go_wp2_with fail
            exact ⟨⟨j, swp ys i j, by omega, rfl, HF5.out, Hnext.out, Hf5.out⟩, by simp [intOf]; omega⟩
          · rw [decide_eq_false hl]
            have hend : HeapN ys n := down_end HP.out.2.1 (fun k h0 hk e => Nat.le_trans (Nat.le_of_not_lt hl) (Hmin.out k h0 hk e))
            have Hend := hide hend
            clear hend hl
            go_wp2_with fail
            go_ret
            exact ⟨_, ys, rfl, ⟨HF4.out, HP.out.1, Hend.out, HP.out.2.2, Hf4.out⟩⟩
theorem tdiv2 (j : Nat) : IntKind.i64.wrap (((j : Int) - 1).tdiv 2) = (((j - 1) / 2 : Nat) : Int) ∨ 9223372036854775807 < j := by
  by_cases h : 9223372036854775807 < j
  · exact .inr h
  · left
    by_cases h0 : j = 0
    · subst h0; decide
    · have e : ((j : Int) - 1).tdiv 2 = (((j - 1) / 2 : Nat) : Int) := by rw [Int.tdiv_eq_ediv_of_nonneg (by omega)]; omega
      rw [e, IntWalk.i64_in _ (by omega)]
def UpPost (w : World) (p : Nat) (A : Option Addr) (N c : Nat) (g : Option Nat) (xs : List Nat) (n : Nat) (e : Ending) (w' : World) : Prop := ∃ ys, e = .returned (.tuple #[]) ∧ SetPost w p A N c g xs n ys w'
set_option maxHeartbeats 4000000 in
set_option maxRecDepth 8000 in
theorem up_any {w : World} {p : Nat} {A : Option Addr} {N c : Nat} {g : Option Nat} {xs : List Nat} (h : FAt w p A N c g xs) (j0 : Nat) (hj : j0 < N) (hN : N ≤ 65536) (hu : UpAt xs N j0) :
    Calls Try.prog 52 #[hpV p, .int .i64 (j0 : Int)] w (UpPost w p A N c g xs N) := by
  have H := hide h
  have Hu := hide hu
  have hl0 := h.len
  clear h hu
  go_enter Try.func52, Try.ntmps52
  go_wp2_with fail
  go_loopw [1] (fun v wr => ∃ (j : Nat) (ys : List Nat), j < N ∧ v = .int .i64 j ∧ Hid (FAt wr p A N c g ys) ∧ Hid (ys.Perm xs ∧ UpAt ys N j) ∧ Hid (Fr (fun k => g = some k) w wr)) (fun v _ => (intOf v).toNat)
  case atStart => exact ⟨j0, xs, hj, rfl, H.out, ⟨List.Perm.refl _, Hu.out⟩, Fr.refl _ _⟩
  case round =>
    clear H
    obtain ⟨w2, rfl⟩ : ∃ w2, w2 = wr := ⟨_, rfl⟩
    obtain ⟨j, ys, hjn, rfl, HF, HP, Hf⟩ := hrel
    have hlen := HF.out.len
    have q1 : IntKind.i64.wrap ((j : Int) - 1) = (j : Int) - 1 := IntWalk.i64_in _ (by omega)
    obtain ⟨i, hi⟩ : ∃ i, (j - 1) / 2 = i := ⟨_, rfl⟩
    have q2 : IntKind.i64.wrap (((j : Int) - 1).tdiv 2) = (i : Int) := by rw [← hi]; exact (tdiv2 j).resolve_right (by omega)
    have hc := HF.out.cell
    have hrest : ∀ k, N ≤ k → ys.getD k 0 = xs.getD k 0 := fun k hk => by
      rw [List.getD_eq_getElem?_getD, List.getD_eq_getElem?_getD, List.getElem?_eq_none (by omega), List.getElem?_eq_none (by omega)]
    have Hrest := hide hrest
    clear hrest
    by_cases hij : i = j
    · have hj00 : j = 0 := by omega
      have hend : HeapN ys N := up_end HP.out.2 (fun h => by omega)
      have Hend := hide hend
      have b1 : ((i : Int) == (j : Int)) = true := by rw [hij]; exact beq_self_eq_true _
      clear hend hlen hi hij hj00
      go_wp2_with fail
      go_end0
      exact ⟨ys, rfl, ⟨HF.out, HP.out.1, Hend.out, Hrest.out, Hf.out⟩⟩
    · have b1 : ((i : Int) == (j : Int)) = false := by simp; omega
      have hjp : 0 < j := by omega
      have Hij := hide hij
      have Hi := hide hi
      clear hij hi
      go_wp2_with fail
      refine (less_any w2 ys A N c g HF.out.ow j i (by omega) (by have := Hi.out; omega)).mono ?_
      rintro e w4 ⟨rfl, hf4⟩
      have HF4 := hide (HF.out.step hf4)
      have Hf4 := hide (Hf.out.trans (hf4.weak _))
      have hc4 := HF4.out.cell
      clear hf4 HF Hf hc
      by_cases hl : ys.getD j 0 < ys.getD i 0
      · rw [decide_eq_true hl]
        go_wp2_with fail
        refine (swap_any w4 ys A N c g HF4.out.ow i j (by have := Hi.out; omega) (by omega)).mono ?_
        rintro e w5 ⟨rfl, hO5, hf5⟩
        have HF5 := hide (HF4.out.turn hO5 hf5)
        have Hf5 := hide (Hf4.out.trans hf5)
        have hnext : (swp ys i j).Perm xs ∧ UpAt (swp ys i j) N i := by
          have hi := Hi.out
          refine ⟨(swp_perm (by omega) (by omega)).trans HP.out.1, ?_⟩
          rw [← hi] at hl ⊢
          exact up_step HP.out.2 (by omega) (by omega) hjp hl
        have Hnext := hide hnext
        clear hO5 hf5 hnext hl hc4 HF4 Hf4
        go_wp2_with fail
        exact ⟨⟨i, swp ys i j, by have := Hi.out; omega, rfl, HF5.out, Hnext.out, Hf5.out⟩, by have := Hi.out; simp [intOf]; omega⟩
      · rw [decide_eq_false hl]
        have hend : HeapN ys N := up_end HP.out.2 (fun h => by rw [Hi.out]; exact Nat.le_of_not_lt hl)
        have Hend := hide hend
        clear hend hl
        go_wp2_with fail
        go_end0
        exact ⟨ys, rfl, ⟨HF4.out, HP.out.1, Hend.out, Hrest.out, Hf4.out⟩⟩
/-- Behind heap.Pop: the least one is answered, the others are a heap. -/
structure PopIs (w : World) (p : Nat) (A : Option Addr) (n c : Nat) (g : Option Nat) (xs : List Nat) (x : Nat) (ys : List Nat) (w3 w' : World) : Prop where
  fr : Fr (fun k => g = some k) w w3
  eq : w' = w3.setCell ⟨p, 2, none⟩ (.slice A (n - 1) c)
  ow : Ow w' 3 1 A (n - 1) c (ys.map ix) g
  perm : (x :: ys).Perm xs
  heap : HeapN ys (n - 1)
  least : ∀ y ∈ ys, x ≤ y
def PopPost (w : World) (p : Nat) (A : Option Addr) (n c : Nat) (g : Option Nat) (xs : List Nat) (e : Ending) (w' : World) : Prop := ∃ (x : Nat) (ys : List Nat) (w3 : World), e = .returned (.iface 3 (.int .i64 (x : Int))) ∧ PopIs w p A n c g xs x ys w3 w'
theorem down_begin {xs : List Nat} {n : Nat} (h : HeapN xs n) (hn : n = xs.length) (h1 : 1 ≤ n) : DownAt (swp xs 0 (n - 1)) (n - 1) 0 := by
  refine ⟨fun k h0 hk hne => ?_, fun h => absurd h (by omega)⟩
  rw [swp_at (by omega) (by omega), swp_at (by omega) (by omega), if_neg (by omega), if_neg (by omega), if_neg (by omega), if_neg (by omega)]
  exact h k h0 (by omega)
set_option maxHeartbeats 2000000 in
set_option maxRecDepth 8000 in
theorem pop_any {w : World} {p : Nat} {A : Option Addr} {n c : Nat} {g : Option Nat} {xs : List Nat} (h : FAt w p A n c g xs) (h1 : 1 ≤ n) (h2 : n ≤ 65536) (hh : HeapN xs n) :
    Calls Try.prog 30 #[hpV p] w (PopPost w p A n c g xs) := by
  have hlen := h.len
  have hc := h.cell
  have H := hide h
  have Hh := hide hh
  have q1 : IntKind.i64.wrap ((n : Int) - 1) = ((n - 1 : Nat) : Int) := by rw [IntWalk.i64_in _ (by omega)]; omega
  obtain ⟨m, hm⟩ : ∃ m, n - 1 = m := ⟨_, rfl⟩
  rw [hm] at q1
  have Hm := hide hm
  have Hlen := hide hlen
  clear h hh hm hlen
  go_enter Try.func30, Try.ntmps30
  go_wp2_with fail
  refine (len_any w A n c).mono ?_
  rintro e w' ⟨rfl, rfl⟩
  go_wp2_with fail
  refine (swap_any w xs A n c g H.out.ow 0 m (by omega) (by have := Hm.out; omega)).mono ?_
  rintro e w2 ⟨rfl, hO2, hf2⟩
  have HF2 := hide (H.out.turn hO2 hf2)
  have Hf2 := hide hf2
  clear hO2 hf2 hc
  go_wp2_with fail
  refine (down_any HF2.out m (by have := Hm.out; omega) h2 (by have := Hm.out; rw [← this]; exact down_begin Hh.out Hlen.out.symm h1)).mono ?_
  rintro e w3 ⟨b, ys, rfl, hS⟩
  have HS := hide hS
  have Hf3 := hide (Hf2.out.trans hS.fr)
  clear hS HF2 Hf2
  go_wp2_with fail
  refine (ppop_any w3 p ys A n c g HS.out.at_.cell HS.out.at_.free HS.out.at_.ow h1 h2).mono ?_
  rintro e w4 ⟨rfl, hw4⟩
  have Hw4 := hide hw4
  clear hw4
  go_wp2_with fail
  go_ret
  have hm := Hm.out
  have hyl := HS.out.at_.len
  have hxl := Hlen.out
  have hlast : ys.getD (n - 1) 0 = xs.getD 0 0 := by
    rw [HS.out.rest (n - 1) (by omega), swp_at (by omega) (by omega), if_pos (by omega)]
  have hperm : (ys.getD (n - 1) 0 :: ys.take (n - 1)).Perm xs := by
    have e1 : ys = ys.take (n - 1) ++ [ys.getD (n - 1) 0] := by
      have h3 := List.take_append_drop (n - 1) ys
      have h4 : ys.drop (n - 1) = [ys.getD (n - 1) 0] := by
        rw [List.drop_eq_getElem_cons (by omega), List.drop_eq_nil_of_le (by omega), List.getD_eq_getElem?_getD, List.getElem?_eq_getElem (by omega)]; rfl
      rw [h4] at h3; exact h3.symm
    have h5 : (ys.getD (n - 1) 0 :: ys.take (n - 1)).Perm ys := by
      conv => rhs; rw [e1]
      exact (List.perm_append_singleton _ _).symm
    exact (h5.trans HS.out.perm).trans (swp_perm (by omega) (by omega))
  refine ⟨ys.getD (n - 1) 0, ys.take (n - 1), w3, rfl, ⟨Hf3.out, Hw4.out, ?_, hperm, fun k h0 hk => ?_, fun y hy => ?_⟩⟩
  · have := HS.out.at_.ow.take (k := n - 1) (by omega)
    rw [Nat.mul_one, ← List.map_take] at this
    rw [Hw4.out]
    exact this.fr (S := fun x => x = p) ((Fr.refl _ _).setAt _) (fun b hb e => HS.out.at_.off (by rw [hb, e]))
  · have := HS.out.heap k h0 (by omega)
    rw [List.getD_eq_getElem?_getD, List.getD_eq_getElem?_getD, List.getElem?_take_of_lt (by omega), List.getElem?_take_of_lt (by omega), ← List.getD_eq_getElem?_getD, ← List.getD_eq_getElem?_getD]
    exact this
  · rw [hlast]
    have hy2 : y ∈ xs := hperm.mem_iff.1 (List.mem_cons_of_mem _ hy)
    obtain ⟨k, hk, rfl⟩ := List.getElem_of_mem hy2
    have := heap_min Hh.out k (by omega)
    rw [List.getD_eq_getElem?_getD (i := k), List.getElem?_eq_getElem hk] at this
    exact this
end Go.Proofs.Ytcfpmnlpoihgfaa
