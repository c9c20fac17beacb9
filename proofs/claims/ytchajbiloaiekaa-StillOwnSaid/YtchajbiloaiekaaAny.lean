/-
  A region that draws its order, whose order is forced but for moves: forced runs are walked as lists, moves are taken early.
-/
import Derived.Test.YtchajbiloaiekaaMem
import Derived.Orders
namespace Go.Proofs.Ytchajbiloaiekaa
open Go.RowKit
set_option linter.unusedVariables false
section
variable {P : Program} {ops : Array Oper} {Q Q' : Exit → Act → World → Prop} {md : Region.Mode}
/-- From k on, n operations are ready one by one, each alone. -/
def runB (md : Region.Mode) (ops : Array Oper) : Nat → Nat → Array Bool → Bool
  | 0, _, _ => true
  | n + 1, k, listed => decide (Region.ready md ops listed = [k]) && runB md ops n (k + 1) (listed.setIfInBounds k true)
def ranA : Nat → Nat → Array Bool → Array Bool
  | 0, _, listed => listed
  | n + 1, k, listed => ranA n (k + 1) (listed.setIfInBounds k true)
theorem oper_then {o : Oper} {a : Act} {w : World} {K N : Act → World → Prop} (h : o.wp P a w K (Exit.then N Q)) : o.wp P a w K Q := by
  unfold Oper.wp at *
  generalize (execOp a.eval o).run P w = r at *
  cases r with
  | ok n w' =>
    cases n <;> simp only [Oper.upon] at h ⊢ <;>
      first
        | exact h
        | exact Calls.mono h (fun e w'' he => by cases e <;> exact he)
  | halt x w' => cases x <;> simp only [Oper.upon] at h ⊢ <;> exact h
theorem wpOp_of_run {o : Oper} {i : Nat} {l : List Oper} {a : Act} {w : World} {N : Act → World → Prop} (h0 : ops[i]? = some o) (h : wpList P ops (Exit.then N Q) (o :: l) a w) : wpOp P ops Q i (wpList P ops (Exit.then N Q) l) a w := by
  unfold wpList at h
  unfold wpOp
  simp only [h0]
  split
  · rename_i hw
    rw [if_pos hw] at h
    rcases h with h | ⟨h1, h2⟩
    · exact .inl (oper_then h)
    · exact .inr ⟨h1, h2⟩
  · rename_i hw
    rw [if_neg hw] at h
    exact h
theorem any_run (g : Nat) : ∀ (l : List Oper) (k : Nat) (listed : Array Bool) (a : Act) (w : World), (∀ j, j < l.length → l[j]? = ops[k + j]?) → runB md ops l.length k listed = true →
    wpList P ops (Exit.then (wpAny P md ops Q g (ranA l.length k listed)) Q) l a w → wpAny P md ops Q (l.length + g) listed a w
  | [], k, listed, a, w, _, _, h => by
    rw [List.length_nil, Nat.zero_add]; exact h
  | o :: l, k, listed, a, w, hl, hB, h => by
    have h0 : ops[k]? = some o := by simpa using (hl 0 (by simp)).symm
    simp only [List.length_cons, runB, Bool.and_eq_true, decide_eq_true_eq] at hB
    rw [List.length_cons, show l.length + 1 + g = (l.length + g) + 1 by omega]
    refine ⟨fun h1 => (by rw [hB.1] at h1; cases h1), fun i hi => ?_⟩
    rw [hB.1] at hi
    obtain rfl : i = k := by simpa using hi
    refine wpOp_mono (fun a' w' h' => any_run g l (i + 1) _ a' w' (fun j hj => by have := hl (j + 1) (by simp; omega); simpa [Nat.add_assoc, Nat.add_comm 1 j] using this) hB.2 h') (wpOp_of_run h0 ?_)
    exact h
end
section
variable {P : Program} {Q : Exit → Act → World → Prop} {l : List Oper}
/-- A forced run of n operations from number k on; g are left. -/
theorem run_at {listed : Array Bool} {a : Act} {w : World} (k n g : Nat) (hsz : k + n ≤ l.length) (hB : runB .any l.toArray n k listed = true)
    (h : wpList P l.toArray (Exit.then (wpAny P .any l.toArray Q g (ranA n k listed)) Q) ((l.drop k).take n) a w) : wpAny P .any l.toArray Q (n + g) listed a w := by
  have hlen : ((l.drop k).take n).length = n := by rw [List.length_take, List.length_drop]; omega
  have := any_run (P := P) (Q := Q) (md := .any) (ops := l.toArray) g ((l.drop k).take n) k listed a w (fun j hj => by
    rw [hlen] at hj
    rw [List.getElem?_take_of_lt hj, List.getElem?_drop]
    simp) (by rw [hlen]; exact hB) (by rw [hlen]; exact h)
  rw [hlen] at this
  exact this
/-- A move is taken. -/
theorem move_at {listed : Array Bool} {a : Act} {w : World} {oi : Oper} {x : Operand} {fuel : Nat} (i : Nat) (hi : l.toArray[i]? = some oi) (hop : oi.op = .move x) (hs : Region.noSelect l.toArray = true) (hf : Region.free .any l.toArray listed i = true) (hr : (Region.ready .any l.toArray listed).contains i = true)
    (hQ : ∀ c a w v, Q (.panic c) (a.put oi.dst v) w → Q (.panic c) a w) (h : wpAny P .any l.toArray Q fuel (listed.setIfInBounds i true) (a.put oi.dst (if Region.wanted oi (yielded l.toArray a.tmps) then a.eval x else undef)) w) : wpAny P .any l.toArray Q (fuel + 1) listed a w := by
  by_cases hw : Region.wanted oi (yielded l.toArray a.tmps) = true
  · rw [if_pos hw] at h
    refine wpAny_take hi hs hf hr (fun c a w => hQ c a w _) (.inl ⟨hw, fun w => ?_⟩) h
    unfold execOp
    simp [hop]
  · rw [if_neg hw] at h
    exact wpAny_take hi hs hf hr (fun c a w => hQ c a w _) (.inr ⟨by simpa using hw, rfl⟩) h
theorem region_any {id : Nat} {a : Act} {w : World} (hm : P.follows .mixedOrders = true) (h : ∀ w', Hid (w' = w.drew) → wpAny P .any l.toArray Q l.length (Array.replicate l.length false) a w') : (Code.region id l.toArray true).wp P Q a w :=
  wp_region_any hm (by simpa using h w.drew rfl)
end
end Go.Proofs.Ytchajbiloaiekaa
