/-
  ring.Ring[int]: All's iterator; List.
-/
import Derived.RangeFuncNested
import Derived.RangeFuncBound
import Derived.RangeFuncCalls
import Derived.RangeFuncLeaves
import Derived.RangeFuncFrom
import Derived.RangeFuncBox
import Derived.Shelf.Abstract
import Derived.Shelf.RegionOpen
import Derived.WalkKit
import Derived.OwnWalkIn
import Derived.TacticsInMore
import Derived.LoopNIn
import Derived.LoopIn
import Derived.Maps.AppendAt
import Derived.Test.YteleakbbppbnnaaRg6
namespace Go.Proofs.Yteleakbbppbnnaa
open Go.RowKit Go.Shelf
set_option linter.unusedVariables false
attribute [local go_sem] Oper.semAt_some

set_option maxRecDepth 100000
def encR (x : Int × Nat) : Array Value := #[.int .i64 (x.2 : Int), .int .i64 x.1]
/-- What a round keeps: all below n₀, and the box bx. -/
def KpR (n₀ bx : Nat) (A B : World) : Prop := Below n₀ A B ∧ B.heap[bx]? = A.heap[bx]?
theorem KpR.t {n₀ bx : Nat} {A B C : World} (h : KpR n₀ bx A B) (k : KpR n₀ bx B C) : KpR n₀ bx A C := ⟨h.1.trans k.1, k.2.trans h.2⟩
theorem RI.below {w w' : World} {p : Nat} {g : Option Nat} {room : Nat} {xs : List Int} {n₀ : Nat} (h : RI w p g room xs) (hf : Below n₀ w w') (hS : ∀ b, foot p g b → b < n₀) : RI w' p g room xs :=
  h.fr (Fr.ofBelow hf) (fun b hb e => by have := hS b hb; omega)
theorem hasR_any {p : Nat} {g : Option Nat} {room : Nat} {xs : List Int} (w : World) (i : Int) (h : RI w p g room xs) :
    Calls Try.prog 43 #[.pointer (some ⟨p, 0, none⟩), .int .i64 i] w fun e w' => e = .returned (.bool (decide (0 ≤ i ∧ i < xs.length))) ∧ w = w' := by
  obtain ⟨C, cc, s, rfl, rfl, h⟩ := h
  exact has_any w i h.bl
theorem grownBy_drewN (w : World) (n : Nat) : w.grownBy (w.drewN n) none := ⟨rfl, rfl, rfl, Nat.le_refl _, fun _ _ _ => rfl⟩
/-- How a round may be left. -/
def Went (J Jx : List (Int × Nat) → World → Prop) (n₀ bx : Nat) (ys : List (Int × Nat)) (W1 : World) (q : Bool) (W' : World) : Prop :=
  (q = true ∧ J ys W' ∧ KpR n₀ bx W1 W') ∨ (q = false ∧ Jx ys W')
set_option maxHeartbeats 2000000 in
theorem all1_stops (m : Nat) (hm : 1 ≤ m) (bx p n₀ : Nat) (g : Option Nat) (room : Nat) (xs : List Int) (w : World) (hb : w.cell? ⟨bx, 0, none⟩ = some (.pointer (some ⟨p, 0, none⟩))) (hI : RI w p g room xs) (hS : ∀ b, foot p g b → b < n₀) (hn : n₀ ≤ w.heap.size) :
    SeqStopsK Fence.wide m Try.prog 42 #[.pointer (some ⟨bx, 0, none⟩)] encR (KpR n₀ bx) (fun ys => ys = xs.zipIdx) (fun _ => True) xs.length w := fun l J Jx W hW hJ hJx hY h0 => by
  have hbx : bx < w.heap.size := World.block_lt_of_cell? w _ hb
  have hI0 := hI.below (hW.mono hn) hS
  have hb0 : W.cell? ⟨bx, 0, none⟩ = some (.pointer (some ⟨p, 0, none⟩)) := (hW.cell (p := ⟨bx, 0, none⟩) hbx).trans hb
  have hle := hI.bounds
  clear hI hb
  refine callsIn_of_wp Try.func42 rfl trivial ?_ rfl
  simp only [Try.ntmps42, List.size_toArray, List.length_cons, List.length_nil, Nat.reduceAdd, Nat.reduceSub, Array.replicate_succ, Array.replicate_zero, List.push_toArray, List.append_toArray, List.nil_append, List.cons_append]
  gi_wp2
  gi_loopw [3] (fun i wr => ∃ k : Nat, i = .int .i64 (k : Int) ∧ k ≤ xs.length ∧ J (xs.zipIdx.take k) wr ∧ RI wr p g room xs ∧ wr.cell? ⟨bx, 0, none⟩ = some (.pointer (some ⟨p, 0, none⟩))) (fun i _ => xs.length - (intOf i).toNat)
  case atStart => exact ⟨0, rfl, Nat.zero_le _, by simpa using h0, hI0, hb0⟩
  case round =>
    obtain ⟨k, rfl, hk, hJk, hIk, hbk⟩ := hrel
    have hhas := hasR_any wr (k : Int) hIk
    by_cases hlt : k < xs.length
    · rw [decide_eq_true (show (0 : Int) ≤ (k : Int) ∧ (k : Int) < (xs.length : Int) by omega)] at hhas
      gi_wp2
      refine ⟨trivial, (callsIn_wide.2 hhas).mono ?_⟩
      rintro e w' ⟨rfl, rfl⟩
      obtain ⟨C, cc, s, e1, e2, hR⟩ := hIk
      have hlt' : k < s.xs.length := by rw [e2]; exact hlt
      obtain ⟨h1, h2, h3, h4⟩ := RS.pos hR.ok hlt'
      have hat := hR.ok.at_ k hlt'
      obtain ⟨x, hx⟩ : ∃ x, xs[k]? = some x := ⟨_, List.getElem?_eq_getElem hlt⟩
      obtain ⟨kk, hkk⟩ : ∃ kk, (s.first + k) % s.vals.length = kk := ⟨_, rfl⟩
      have hkl : kk < s.vals.length := by rw [← hkk]; exact Nat.mod_lt _ h1
      rw [hkk, e2, hx] at hat
      obtain ⟨b, o, rfl, hg, hc, -⟩ := hR.ow.look (j := kk) (u := .int .i64 x) (by rw [List.getElem?_map, hat]; rfl)
      have hbl := hR.bl
      obtain ⟨nc, hnc⟩ : ∃ nc, s.vals.length = nc := ⟨_, rfl⟩
      obtain ⟨f, hf⟩ : ∃ f, s.first = f := ⟨_, rfl⟩
      rw [hnc] at h1 h4 hkk hkl hbl
      rw [hf] at h2 hkk hbl
      have c0 : wr.cell? ⟨p, 0, none⟩ = some (.slice (some ⟨b, o, none⟩) nc cc) := hbl.cell' rfl
      have i1 : (0 : Int) ≤ (kk : Int) := by omega
      have i2 : (kk : Int) < (nc : Int) := by omega
      have Hkk := hide hkk
      clear hkk hat
      have hzk : xs.zipIdx[k]?.toList = [(x, k)] := by rw [List.getElem?_zipIdx, hx]; simp
      have hmx : Try.prog.follows .mixedOrders = true := by kernel_rfl
      have hlen : (xs.zipIdx.take k).length < xs.length := by rw [List.length_take]; simp; omega
      have hJd : ∀ j, J (xs.zipIdx.take k) (wr.drewN j) := fun j => hJ _ _ _ none hJk (grownBy_drewN wr j) (fun r e => by cases e)
      have hId : ∀ j, RI (wr.drewN j) p g room xs := fun j => RI.fr ⟨_, cc, s, e1, e2, hR⟩ ((Fr.refl (fun _ => False) wr).drewN j) (fun _ _ => id)
      have hIk2 := hide hId
      clear hId
      gi_wp2
      gi_region_with_o (first
        | (refine ⟨trivial, ?_⟩; gi_at_call 23; refine (callsIn_wide.2 (place_any _ k (by exact hbl) h1 h2 h3 h4 kk Hkk.out)).mono ?_; rintro e w4 ⟨rfl, m4, rfl⟩; obtain ⟨fn, tm, as_, bd, hy, hRd⟩ := hY (xs.zipIdx.take k) (x, k) (wr.drewN (1 + m4)) (hJd _) hlen; dsimp only [encR] at hy; have HRd := hide (hRd.mono (R' := fun e W' => ∃ q, e = .returned (.bool q) ∧ Went J Jx n₀ bx (xs.zipIdx.take k ++ [(x, k)]) (wr.drewN (1 + m4)) q W') (by rintro e W' (⟨rfl, hJ, hk⟩ | ⟨rfl, hJ⟩); exact ⟨true, rfl, .inl ⟨rfl, hJ, hk⟩⟩; exact ⟨false, rfl, .inr ⟨rfl, hJ⟩⟩)); clear hRd)
        | (refine HRd.out.mono ?_; rintro e W3 ⟨q, rfl, hq3⟩; clear HRd))
      all_goals (rcases hq3 with ⟨rfl, hJ3, hk3⟩ | ⟨rfl, hJx3⟩)
      all_goals first
        | (have hkk3 := hk3.1; skip)
        | (gi_wp2
           refine bodyPost_ret (results_none rfl _ _ _) rfl ?_
           exact ⟨⟨_, rfl⟩, .inr ⟨_, trivial, hJx3⟩⟩)
      all_goals (have hI3 := RI.below (hIk2.out (1 + m4)) hk3.1 hS)
      all_goals (have hb3 : W3.cell? ⟨bx, 0, none⟩ = some (.pointer (some ⟨p, 0, none⟩)) := (World.cell?_of_block (w := wr.drewN (1 + m4)) (a := ⟨bx, 0, none⟩) hk3.2).trans hbk)
      all_goals (have hJ4 : J (xs.zipIdx.take (k + 1)) W3 := by rw [List.take_add_one, hzk]; exact hJ3)
      all_goals clear hc c0 hbl hR hJ3 hk3 hbk
      all_goals gi_wp2
      all_goals exact ⟨⟨k + 1, by go_num, hlt, hJ4, hI3, hb3⟩, by simp [intOf]; omega⟩
    · rw [decide_eq_false (show ¬ ((0 : Int) ≤ (k : Int) ∧ (k : Int) < (xs.length : Int)) by omega)] at hhas
      obtain rfl : k = xs.length := by omega
      gi_wp2
      refine ⟨trivial, (callsIn_wide.2 hhas).mono ?_⟩
      rintro e w' ⟨rfl, rfl⟩
      gi_wp2
      go_end0
      refine ⟨⟨_, rfl⟩, .inl ⟨_, rfl, ?_⟩⟩
      rwa [List.take_of_length_le (by simp)] at hJk
end Go.Proofs.Yteleakbbppbnnaa
