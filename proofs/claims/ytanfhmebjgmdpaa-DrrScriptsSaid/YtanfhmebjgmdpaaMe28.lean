/-
  Texts merged into one, to keep the claim small: DxA.
-/
import Derived.Test.YtanfhmebjgmdpaaMe15
import Derived.Test.YtanfhmebjgmdpaaDp1i
import Derived.Test.YtanfhmebjgmdpaaDr4i
import Derived.Test.YtanfhmebjgmdpaaMe27
/-
  drr.Drr[int]: what is refused within a round; a round within a round, and of none.
-/
namespace Go.Proofs.Ytanfhmebjgmdpaa.Qi
open Go.RowKit Go.Shelf
set_option linter.unusedVariables false
attribute [local go_sem] Oper.semAt_some
section
variable {d L : Nat} {D : Int} {s : DS (Int × Int)}
theorem Drop_no (w : World) (h : DrrAt w d L D s) (q : Int) (hq : openN s q ≠ 0) :
    Calls Try.prog 17 #[.pointer (some ⟨d, 0, none⟩), .int .i64 q] w fun e w' => e = .returned (.tuple #[.slice none 0 0, .int .i64 (openN s q)]) ∧ Fr (fun _ => False) w w' := by
  have ho := open_no w h q hq
  obtain ⟨n, hn⟩ : ∃ n, openN s q = n := ⟨_, rfl⟩
  rw [hn] at ho hq ⊢
  have h1 : (n == 0) = false := by simpa using hq
  have h2 : (n != 0) = true := by simpa using hq
  clear h hn hq
  refine (callsIn_wide (n := 5)).1 ?_
  refine callsIn_of_wp_marks Try.func17 rfl trivial ?_ rfl
  simp only [Try.ntmps17, List.size_toArray, List.length_cons, List.length_nil, Nat.reduceAdd, Nat.reduceSub, Array.replicate_succ, Array.replicate_zero, List.push_toArray, List.append_toArray, List.nil_append, List.cons_append]
  refine wpIn_wide.2 ?_
  go_wp2_with fail
  refine ho.mono ?_
  rintro e w' ⟨rfl, rfl⟩
  go_wp2_with fail
  exact ⟨_, results_tmp2 rfl _ _ _, rfl, Fr.refl _ _⟩
theorem Drop_nil (w : World) (q : Int) : Calls Try.prog 17 #[.pointer none, .int .i64 q] w fun e w' => e = .returned (.tuple #[.slice none 0 0, .int .i64 1]) ∧ Fr (fun _ => False) w w' := by
  refine (callsIn_wide (n := 5)).1 ?_
  refine callsIn_of_wp_marks Try.func17 rfl trivial ?_ rfl
  simp only [Try.ntmps17, List.size_toArray, List.length_cons, List.length_nil, Nat.reduceAdd, Nat.reduceSub, Array.replicate_succ, Array.replicate_zero, List.push_toArray, List.append_toArray, List.nil_append, List.cons_append]
  refine wpIn_wide.2 ?_
  go_wp2_with fail
  refine (open_nil w q).mono ?_
  rintro e w' ⟨rfl, rfl⟩
  go_wp2_with fail
  exact ⟨_, results_tmp2 rfl _ _ _, rfl, Fr.refl _ _⟩
set_option maxRecDepth 100000 in
theorem round_nil (m : Nat) (hm : 1 ≤ m) (bx : Nat) :
    SeqJ (σ := Unit) (α := Nat × (Int × Int)) Fence.wide m Try.prog 80 #[.pointer (some ⟨bx, 0, none⟩)] encY (fun _ W => Bl W bx tPD #[.pointer none]) (fun _ _ => True) (fun _ _ _ _ => False) (fun _ _ => False) (fun _ _ _ => False) (fun _ _ _ => False) (fun _ _ _ _ => False) () (fun _ => True) (fun _ => False) := fun l J Jx W hJH hJxH hT hLT hY h0 => by
  have hbk : W.cell? ⟨bx, 0, none⟩ = some (.pointer none) := (hJH _ _ h0).cell' rfl
  refine callsIn_of_wp_defers Try.func80 rfl trivial ?_ rfl
  simp only [Try.ntmps80, List.size_toArray, List.length_cons, List.length_nil, Nat.reduceAdd, Nat.reduceSub, Array.replicate_succ, Array.replicate_zero, List.push_toArray, List.append_toArray, List.nil_append, List.cons_append]
  refine wpIn_wide.2 ?_
  go_wp2_with fail
  first
    | exact ⟨_, results_none rfl _ _ _, ⟨_, rfl⟩, .inl ⟨(), trivial, h0⟩⟩
    | exact ⟨_, results_none rfl _ _ _, ⟨_, rfl⟩, (), h0⟩
set_option maxRecDepth 100000 in
theorem round_busy (m : Nat) (hm : 1 ≤ m) (bx d : Nat) :
    SeqJ (σ := Unit) (α := Nat × (Int × Int)) Fence.wide m Try.prog 80 #[.pointer (some ⟨bx, 0, none⟩)] encY (fun _ W => Bl W bx tPD #[.pointer (some ⟨d, 0, none⟩)] ∧ W.cell? ⟨d, 2, none⟩ = some (.bool true)) (fun _ _ => True) (fun _ _ _ _ => False) (fun _ _ => False) (fun _ _ _ => False) (fun _ _ _ => False) (fun _ _ _ _ => False) () (fun _ => True) (fun _ => False) := fun l J Jx W hJH hJxH hT hLT hY h0 => by
  have hbk : W.cell? ⟨bx, 0, none⟩ = some (.pointer (some ⟨d, 0, none⟩)) := (hJH _ _ h0).1.cell' rfl
  have hc2 := (hJH _ _ h0).2
  refine callsIn_of_wp_defers Try.func80 rfl trivial ?_ rfl
  simp only [Try.ntmps80, List.size_toArray, List.length_cons, List.length_nil, Nat.reduceAdd, Nat.reduceSub, Array.replicate_succ, Array.replicate_zero, List.push_toArray, List.append_toArray, List.nil_append, List.cons_append]
  refine wpIn_wide.2 ?_
  go_wp2_with fail
  first
    | exact ⟨_, results_none rfl _ _ _, ⟨_, rfl⟩, .inl ⟨(), trivial, h0⟩⟩
    | exact ⟨_, results_none rfl _ _ _, ⟨_, rfl⟩, (), h0⟩
theorem func_nilD (fn : Fn) (x y : Array Value) (W : World) : (binOp .eql 142 (.func fn x y) .nilFunc).run Try.prog W = .ok (.bool false) W := by
  kernel_rfl
theorem blOwn {W W' : World} {row : Option Nat} {b : Nat} {t : TypeId} {cs : Array Value} (h : Bl W b t cs) (hg : W.grownBy W' row) (hr : ∀ r, row = some r → ∃ o : Obj, W.heap[r]? = some o ∧ o.isCells = false) : Bl W' b t cs :=
  h.fr (Fr.ofGrown hg) (row_ne' (W' := W') h hr)
/-- What stands while an iterator that yields none runs. -/
structure NJ (w0 : World) (v : Value) (nb bx : Nat) (K : World → Prop) (W : World) : Prop where
  n : Bl W nb 3 #[.int .i64 0]
  bx : Bl W bx tPD #[v]
  k : K W
  fr : Fr (fun b => w0.heap.size ≤ b) w0 W
theorem NJ.own {w0 : World} {v : Value} {nb bx B : Nat} {K : World → Prop} (hB : w0.heap.size ≤ B) (hK : ∀ W W' row, K W → W.grownBy W' row → (∀ r, row = some r → ∃ o : Obj, W.heap[r]? = some o ∧ o.isCells = false) → K W') : OwnFrom B (fun (_ : Unit) W => NJ w0 v nb bx K W) := by
  rintro _ W W' row h hg hr
  have hr' : ∀ r, row = some r → ∃ o : Obj, W.heap[r]? = some o ∧ o.isCells = false := fun r e => (hr r e).2
  exact ⟨blOwn h.n hg hr', blOwn h.bx hg hr', hK _ _ _ h.k hg hr', h.fr.trans ((Fr.ofGrown hg).mono fun k _ e => by have := (hr k e.symm).1; omega)⟩
set_option maxHeartbeats 2000000 in
set_option maxRecDepth 100000 in
theorem inner_of (w : World) (v : Value) (hv : ∃ p, v = .pointer p) (K : World → Prop) (hK0 : K w) (hKq : ∀ W, K w → Fr (fun b => w.heap.size ≤ b) w W → K W) (hK : ∀ W W' row, K W → W.grownBy W' row → (∀ r, row = some r → ∃ o : Obj, W.heap[r]? = some o ∧ o.isCells = false) → K W')
    (hseq : ∀ bx, SeqJ (σ := Unit) (α := Nat × (Int × Int)) Fence.wide 4 Try.prog 80 #[.pointer (some ⟨bx, 0, none⟩)] encY (fun _ W => Bl W bx tPD #[v] ∧ K W) (fun _ _ => True) (fun _ _ _ _ => False) (fun _ _ => False) (fun _ _ _ => False) (fun _ _ _ => False) (fun _ _ _ _ => False) () (fun _ => True) (fun _ => False)) :
    Calls Try.prog 70 #[v] w fun e w' => e = .returned (.int .i64 0) ∧ Fr (fun _ => False) w w' := by
  have hRa := fun W => Round_any W v hv
  obtain ⟨p, rfl⟩ := hv
  refine (callsIn_wide (n := 5)).1 ?_
  refine callsIn_of_wp_marks Try.func70 rfl trivial ?_ rfl
  simp only [Try.ntmps70, List.size_toArray, List.length_cons, List.length_nil, Nat.reduceAdd, Nat.reduceSub, Array.replicate_succ, Array.replicate_zero, List.push_toArray, List.append_toArray, List.nil_append, List.cons_append]
  refine wpIn_wide.2 ?_
  go_wp2_with fail
  refine (hRa _).mono ?_
  rintro e w5 ⟨rfl, hw5⟩
  have hfn := func_nilD
  go_wp2_with fail
  clear hfn hRa
  obtain ⟨s, hs⟩ : ∃ s, w.heap.size = s := ⟨_, rfl⟩
  have hF5 : Fr (fun _ => False) w w5 := by rw [← hw5]; (repeat (first | with_reducible exact Fr.refl _ _ | with_reducible assumption | with_reducible refine Fr.drew ?_ | with_reducible refine Fr.drewN ?_ _ | with_reducible refine Fr.alloc ?_ _ | with_reducible refine Fr.setIn ?_ (by first | exact Or.inl rfl | exact Or.inr (by simp; done) | exact Or.inr (by simp; omega) | exact Or.inr (by omega)) _))
  have hJ0 : NJ w (.pointer p) s (s + 1) K w5 := by
    refine ⟨?_, ?_, hKq w5 hK0 (hF5.weak _), hF5.weak _⟩
    · rw [← hs, ← hw5]; (repeat (first | with_reducible assumption | with_reducible refine Bl.drew ?_ | with_reducible refine Bl.drewN ?_ _ | with_reducible refine Bl.far ?_ (by first | (simp; done) | (simp; omega)) _ | with_reducible exact Bl.newAt (by simp) | with_reducible refine Bl.alloc ?_ _))
    · rw [← hs, ← hw5]; (repeat (first | with_reducible assumption | with_reducible refine Bl.drew ?_ | with_reducible refine Bl.drewN ?_ _ | with_reducible refine Bl.far ?_ (by first | (simp; done) | (simp; omega)) _ | with_reducible exact Bl.newAt (by simp) | with_reducible refine Bl.alloc ?_ _))
  rw [hs]
  have hz : s ≤ w5.heap.size := by have := hF5.size; omega
  clear hw5
  refine (wpIn_wide (n := 5)).1 ?_
  refine wpIn_rangeFunc_K (fun a x a' W => a' = a)
    rfl (by omega) (gf := 80) (lb := #[.pointer (some ⟨s + 1, 0, none⟩)]) rfl trivial (enters_of Try.func80 (by kernel_rfl) rfl)
    (hseq (s + 1)) (fun x => rfl) (fun _ _ => trivial) (fun _ _ _ _ _ _ => trivial)
    (fun (_ : Unit) W => NJ w (.pointer p) s (s + 1) K W) (fun _ _ _ => False) (fun _ _ h => ⟨h.bx, h.k⟩) (fun _ _ _ h => h.elim) (fun _ _ _ _ _ h => h.elim) (fun _ _ _ _ _ h => h.elim) (NJ.own (by omega) hK) (fun _ _ _ _ _ h => h.elim) hJ0
    (fun _ _ _ _ _ _ h _ _ => h) (fun _ _ _ _ _ _ h _ => h.elim) (fun _ _ _ _ _ _ _ _ _ h => h.elim) ?done (fun _ _ _ _ _ _ h _ => h.elim)
  case done =>
    intro D r W hD _ hJ hW
    have c3 : W.cell? ⟨s, 0, none⟩ = some (.int .i64 0) := hJ.n.cell' rfl
    have HJ := hide hJ
    have HW := hide hW
    clear hJ hW hJ0
    go_wp2_with fail
    refine ⟨by simp, .inl ⟨_, _, rfl, run_takeDeferred HW.out, ?_⟩⟩
    exact ⟨_, results_tmp rfl _ _ _, rfl, (HJ.out.fr.trans ((Fr.ofGrown (grownBy_putObj' W D _)).mono fun x _ e => by cases e; omega)).mono fun x hx e => by omega⟩
theorem inner_nil (w : World) : Calls Try.prog 70 #[.pointer none] w fun e w' => e = .returned (.int .i64 0) ∧ Fr (fun _ => False) w w' :=
  inner_of w _ ⟨_, rfl⟩ (fun _ => True) trivial (fun _ _ _ => trivial) (fun _ _ _ _ _ _ => trivial) (fun bx => by
    intro l J Jx W hJH hJxH hT hLT hY h0
    exact round_nil 4 (by omega) bx l J Jx W (fun s W h => (hJH s W h).1) (fun s W h => (hJxH s W h).1) hT hLT hY h0)
theorem inner_busy (w : World) (h : DrrAt w d L D s) (hb : s.busy = true) : Calls Try.prog 70 #[.pointer (some ⟨d, 0, none⟩)] w fun e w' => e = .returned (.int .i64 0) ∧ Fr (fun _ => False) w w' := by
  have hbl := h.bl
  rw [hb] at hbl
  exact inner_of w _ ⟨_, rfl⟩ (fun W => ∃ cs, Bl W d TT.tD cs ∧ cs[2]? = some (.bool true)) ⟨_, hbl, rfl⟩ (fun W ⟨cs, h1, h2⟩ hf => ⟨cs, h1.fr hf (by have := h1.lt; omega), h2⟩) (fun W W' row ⟨cs, h1, h2⟩ hg hr => ⟨cs, blOwn h1 hg hr, h2⟩) (fun bx => by
    intro l J Jx W hJH hJxH hT hLT hY h0
    exact round_busy 4 (by omega) bx d l J Jx W (fun s W h => ⟨(hJH s W h).1, by obtain ⟨cs, h1, h2⟩ := (hJH s W h).2; exact h1.cell' h2⟩) (fun s W h => ⟨(hJxH s W h).1, by obtain ⟨cs, h1, h2⟩ := (hJxH s W h).2; exact h1.cell' h2⟩) hT hLT hY h0)
end
end Go.Proofs.Ytanfhmebjgmdpaa.Qi
