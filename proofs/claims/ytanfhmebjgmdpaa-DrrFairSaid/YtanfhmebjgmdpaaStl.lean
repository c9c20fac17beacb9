/-
  A region that draws its order, inside a round's fence: operations that only read, then a tail in one order.
-/
import Derived.StillTail
import Derived.OrdersIn
import Derived.TacticsIn
import Derived.Test.YtanfhmebjgmdpaaMem
namespace Go.Proofs.Ytanfhmebjgmdpaa
open Go.RowKit
set_option linter.unusedVariables false
section
variable {F : Fence} {m : Nat} {P : Program} {ops : Array Oper} {w : World} {Q : Exit → Act → World → Prop} {md : Region.Mode}
/-- Operations that call nothing. -/
def calmOp (o : Oper) : Bool := match o.op with
  | .move _ | .assign _ | .load _ _ | .store _ _ _ | .fieldAddr _ _ _ | .indexAddr _ _ _ | .binOp _ _ _ _ _ | .unOp _ _ _ => true
  | _ => false
theorem run_v {s : Sem Value} {n : Next} {w w' : World} (h : (do pure (.value (← s)) : Sem Next).run P w = .ok n w') : ∃ v, n = .value v := by
  rw [Sem.run_bind] at h
  cases hs : s.run P w with
  | ok v w1 => rw [hs] at h; simp only [Result.andThen_ok, Sem.run_pure] at h; cases h; exact ⟨v, rfl⟩
  | halt x w1 => rw [hs] at h; cases h
theorem run_u {s : Sem Unit} {n : Next} {w w' : World} (h : (do s; pure .skip : Sem Next).run P w = .ok n w') : n = .skip := by
  rw [Sem.run_bind] at h
  cases hs : s.run P w with
  | ok v w1 => rw [hs] at h; simp only [Result.andThen_ok, Sem.run_pure] at h; cases h; rfl
  | halt x w1 => rw [hs] at h; cases h
theorem calm_about {o : Oper} (h : calmOp o = true) (w : World) (ρ : Operand → Value) : o.about P w ρ = none := by
  unfold calmOp at h
  unfold Oper.about
  split at h <;> simp_all
theorem calm_sem {o : Oper} (h : calmOp o = true) (r : Option Nat) (ρ : Operand → Value) : o.semAt r ρ = execOp ρ o := by
  unfold calmOp at h
  unfold Oper.semAt
  split at h
  all_goals first
    | exact absurd h (by decide)
    | (rename_i ho; simp only [ho])
theorem calm_run {o : Oper} (h : calmOp o = true) {ρ : Operand → Value} {w w' : World} {f : FuncId} {args : Array Value} (hr : (execOp ρ o).run P w = .ok (.enter f args) w') : False := by
  unfold calmOp at h
  unfold execOp at hr
  split at h
  all_goals first
    | exact absurd h (by decide)
    | (rename_i ho; simp only [ho] at hr)
  all_goals first
    | (obtain ⟨v, e⟩ := run_v hr; cases e; done)
    | (have e := run_u hr; cases e; done)
    | (rw [Sem.run_pure] at hr; cases hr; done)
theorem wpOpIn_of_stOp (hcalm : ∀ o ∈ ops, calmOp o = true) {i : Nat} {a : Act} {K : Act → Prop} {K' : Act → World → Prop} (h : ∀ a, K a → K' a w) (hh : stOp P ops w i K a) : wpOpIn F m P ops Q i K' a w := by
  unfold stOp at hh
  unfold wpOpIn
  cases ho : ops[i]? with
  | none => simp only [ho] at hh ⊢; exact h _ hh
  | some o =>
    simp only [ho] at hh ⊢
    have hc := hcalm o (Array.mem_of_getElem? ho)
    have hab : ∀ f, o.about P w a.eval = some f → F.fn f := fun f hf => by rw [calm_about hc] at hf; cases hf
    split
    · rename_i hw
      simp only [hw, if_true] at hh
      refine ⟨hab, ?_⟩
      rw [calm_sem hc]
      unfold Oper.still at hh
      generalize hr : (execOp a.eval o).run P w = r at *
      cases r with
      | ok n w' =>
        cases n <;> simp only [Oper.stillUpon] at hh <;> simp only [Oper.uponIn]
        case enter f args => exact (calm_run hc hr).elim
        all_goals (obtain ⟨rfl, h2⟩ := hh; exact h _ h2)
      | halt x w' => simp only [Oper.stillUpon] at hh
    · rename_i hw
      simp only [hw] at hh
      exact ⟨hab, h _ hh⟩
theorem wpAnyIn_of_head (hcalm : ∀ o ∈ ops, calmOp o = true) {n g : Nat} {L : Array Bool → Act → Prop} (hL : ∀ listed a, L listed a → wpAnyIn F m P md ops Q g listed a w) :
    ∀ (f : Nat) (listed : Array Bool) (a : Act), wpAnyL P md ops w n L f listed a → wpAnyIn F m P md ops Q (f + g) listed a w
  | 0, listed, a, h => by rw [Nat.zero_add]; exact hL _ _ h
  | f + 1, listed, a, h => by
    rw [show f + 1 + g = (f + g) + 1 by omega]
    exact ⟨fun h0 => absurd h0 h.1, fun i hi => wpOpIn_of_stOp hcalm (fun a' h' => wpAnyIn_of_head hcalm hL f _ a' h') (h.2 i hi).2⟩
theorem wpAnyIn_of_seq : ∀ (l : List Oper) (k : Nat) (listed : Array Bool) (a : Act) (w : World), (∀ j, l[j]? = ops[k + j]?) →
    Region.seqB md ops l.length k listed = true → wpListIn F m P ops Q l a w → wpAnyIn F m P md ops Q l.length listed a w
  | [], _, _, _, _, _, hB, h => ⟨by simpa [Region.seqB] using hB, h⟩
  | o :: l, k, listed, a, w, hl, hB, h => by
    have h0 : ops[k]? = some o := by simpa using (hl 0).symm
    simp only [List.length_cons, Region.seqB, Bool.and_eq_true, decide_eq_true_eq] at hB
    refine ⟨fun h1 => (by rw [hB.1] at h1; cases h1), fun i hi => ?_⟩
    rw [hB.1] at hi
    have hik : i = k := by simpa using hi
    subst hik
    have hw : wpOpIn F m P ops Q i (wpListIn F m P ops Q l) a w := by unfold wpOpIn; simp only [h0]; exact h
    exact wpOpIn_mono (fun a' w' h' => wpAnyIn_of_seq l (i + 1) _ a' w' (fun j => by have := hl (j + 1); simpa [Nat.add_assoc, Nat.add_comm 1 j] using this) hB.2 h') hw
end
theorem regionIn_tail {F : Fence} {m : Nat} {P : Program} {id : Nat} {Q : Exit → Act → World → Prop} {a : Act} {w : World} {l : List Oper} (n : Nat) (hm : P.follows .mixedOrders = true) (hB : Region.lexTailB .any l.toArray n = true) (hC : l.all calmOp = true)
    (h : ∀ w1 : World, Hid (w1 = w.drew) → (∀ p, w1.cell? p = w.cell? p) → (∀ p, w1.frozen? p = w.frozen? p) → w1.heap.size = w.heap.size →
      wpStill P l.toArray w1 (fun a' => wpListIn F m P l.toArray Q (l.drop n) a' w1) (l.take n) a) : (Code.region id l.toArray true).wpIn F m P Q a w := by
  have h := h w.drew rfl (fun _ => rfl) (fun _ => rfl) rfl
  have hcalm : ∀ o ∈ l.toArray, calmOp o = true := fun o ho => List.all_eq_true.1 hC o (by simpa using ho)
  simp only [Region.lexTailB, Bool.and_eq_true, decide_eq_true_eq] at hB
  obtain ⟨⟨⟨⟨hsel, hn⟩, hs⟩, hc⟩, hlex⟩ := hB
  have hn' : n < l.length := by simpa using hn
  have htl : (l.take n).length = n := by simp; omega
  have hdl : (l.drop n).length = l.toArray.size - n := by simp
  have inv0 : HeadInv .any l.toArray n (Array.replicate l.toArray.size false) :=
    ⟨by simp, fun j oj _ hl => (by rw [getD_replicate_false] at hl; cases hl), fun t _ ht => getD_in (by simpa using ht) (getD_replicate_false _ _)⟩
  have H := wpAnyL_lex (md := .any) (g := l.toArray.size - n) hsel hs hc hn (l.take n) 0 _ a (fun j hj => by
    have hj' : j < n := by rw [htl] at hj; exact hj
    simp [hj']) (by simpa using htl) inv0 (by rw [htl]; exact hlex) h
  refine wpIn_region_any hm ?_
  have := wpAnyIn_of_head (F := F) (m := m) (Q := Q) hcalm (g := l.toArray.size - n) (fun listed a' hL => by
    have := wpAnyIn_of_seq (F := F) (m := m) (md := .any) (Q := Q) (l.drop n) n listed a' w.drew (fun j => by simp [List.getElem?_drop]) (by rw [hdl]; exact hL.1) hL.2
    rwa [hdl] at this) _ _ _ H
  rw [htl, show n + (l.toArray.size - n) = l.toArray.size by omega] at this
  exact this
#print axioms regionIn_tail
end Go.Proofs.Ytanfhmebjgmdpaa
