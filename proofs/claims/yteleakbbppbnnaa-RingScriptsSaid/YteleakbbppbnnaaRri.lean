/-
  Of none at all: List, and the walk.
-/
import Derived.Test.YteleakbbppbnnaaRr9
namespace Go.Proofs.Yteleakbbppbnnaa
open Go.RowKit Go.Shelf
set_option linter.unusedVariables false
set_option linter.unusedSimpArgs false
attribute [local go_sem] Oper.semAt_some
abbrev tInts : TypeId := 22
/-- What stands while an iterator over none runs: a box, the iterator's box. -/
structure NJ (w0 : World) (bs : List (Nat × TypeId × Array Value)) (bx : Nat) (W : World) : Prop where
  bl : ∀ x ∈ bs, Bl W x.1 x.2.1 x.2.2
  bx : Bl W bx tPR #[.pointer none]
  fr : Fr (fun b => w0.heap.size ≤ b) w0 W
theorem NJ.own {w0 : World} {bs : List (Nat × TypeId × Array Value)} {bx B : Nat} (hB : w0.heap.size ≤ B) : OwnFrom B (fun (_ : Unit) W => NJ w0 bs bx W) := by
  rintro _ W W' row h hg hr
  have hr' : ∀ r, row = some r → ∃ o : Obj, W.heap[r]? = some o ∧ o.isCells = false := fun r e => (hr r e).2
  exact ⟨fun x hx => (h.bl x hx).own8 hg hr', h.bx.own8 hg hr', h.fr.trans ((Fr.ofGrown hg).mono fun k _ e => by have := (hr k e.symm).1; omega)⟩
set_option maxHeartbeats 2000000 in
set_option maxRecDepth 100000 in
theorem list_nil (w : World) : Calls Try.prog 10 #[.pointer none] w fun e w' => e = .returned (.slice none 0 0) ∧ Fr (fun _ => False) w w' := by
  refine (callsIn_wide (n := 5)).1 ?_
  refine callsIn_of_wp_marks Try.func10 rfl trivial ?_ rfl
  simp only [Try.ntmps10, List.size_toArray, List.length_cons, List.length_nil, Nat.reduceAdd, Nat.reduceSub, Array.replicate_succ, Array.replicate_zero, List.push_toArray, List.append_toArray, List.nil_append, List.cons_append]
  gi_wp2
  refine ⟨trivial, (callsIn_wide.2 (all_any _ _ ⟨_, rfl⟩)).mono ?_⟩
  rintro e w5 ⟨rfl, hw5⟩
  gi_wp2
  obtain ⟨s, hs⟩ : ∃ s, w.heap.size = s := ⟨_, rfl⟩
  have hJ0 : NJ w [(s, tInts, #[.slice none 0 0])] (s + 1) w5 := by
    rw [← hw5, ← hs]
    exact ⟨fun x hx => by simp at hx; subst hx; exact (Bl.new _ _ _).alloc _, Bl.newAt (by simp), ((Fr.refl _ _).alloc _).alloc _⟩
  rw [hs]
  have hz : s ≤ w5.heap.size := by rw [← hw5, ← hs]; simp only [World.size_alloc]; omega
  clear hw5
  refine wpIn_rangeFunc_K (fun a x a' W => a' = a)
    rfl (by omega) (gf := 42) (lb := #[.pointer (some ⟨s + 1, 0, none⟩)]) rfl trivial (enters_of Try.func42 (by kernel_rfl) rfl)
    (all1_none 4 (by omega) (s + 1)) (fun x => rfl) (fun _ _ => trivial) (fun _ _ _ _ _ _ => trivial)
    (fun (_ : Unit) W => NJ w [(s, tInts, #[.slice none 0 0])] (s + 1) W) (fun _ _ _ => False) (fun _ _ h => h.bx) (fun _ _ _ h => h.elim) (fun _ _ _ _ _ h => h.elim) (fun _ _ _ _ _ h => h.elim) (NJ.own (by omega)) (fun _ _ _ _ _ h => h.elim) hJ0
    (fun _ _ _ _ _ _ h _ _ => h) (fun _ _ _ _ _ _ h _ => h.elim) (fun _ _ _ _ _ _ _ _ _ h => h.elim) ?done (fun _ _ _ _ _ _ h _ => h.elim)
  case done =>
    intro D r W hD _ hJ hW
    have c3 : W.cell? ⟨s, 0, none⟩ = some (.slice none 0 0) := (hJ.bl (s, tInts, #[.slice none 0 0]) (by simp)).cell' rfl
    have HJ := hide hJ
    have HW := hide hW
    clear hJ hW hJ0
    gi_wp2
    refine ⟨by simp, .inl ⟨_, _, rfl, run_takeDeferred HW.out, ?_⟩⟩
    exact ⟨_, results_tmp rfl _ _ _, rfl, (HJ.out.fr.trans ((Fr.ofGrown (grownBy_putObj' W D _)).mono fun x _ e => by cases e; omega)).mono fun x hx e => by omega⟩
set_option maxHeartbeats 2000000 in
set_option maxRecDepth 100000 in
theorem walk_nil (w : World) (op : Array Value) (hop : ∃ kd wh tt n x A m c, op = #[.int .i64 kd, .int .i64 wh, .int .i64 tt, .int .i64 n, .int .i64 x, .slice A m c]) :
    Calls Try.prog 36 #[.pointer none, .pointer none, .agg op] w fun e w' => e = .returned (.bool true) ∧ Fr (fun _ => False) w w' := by
  obtain ⟨kd, wh, tt, n, x, A, m, c, rfl⟩ := hop
  refine (callsIn_wide (n := 5)).1 ?_
  refine callsIn_of_wp_marks Try.func36 rfl trivial ?_ rfl
  simp only [Try.ntmps36, List.size_toArray, List.length_cons, List.length_nil, Nat.reduceAdd, Nat.reduceSub, Array.replicate_succ, Array.replicate_zero, List.push_toArray, List.append_toArray, List.nil_append, List.cons_append]
  refine wpIn_wide.2 ?_
  go_wp2_with fail
  refine (all_any _ _ ⟨_, rfl⟩).mono ?_
  rintro e w5 ⟨rfl, hw5⟩
  have hfn := func_nil9
  go_wp2_with fail
  clear hfn
  obtain ⟨s, hs⟩ : ∃ s, w.heap.size = s := ⟨_, rfl⟩
  have hJ0 : NJ w [(s + 1, 49, #[.pointer none]), (s + 3, 4, #[.bool false]), (s + 4, 3, #[.int .i64 0])] (s + 5) w5 := by
    have hF : Fr (fun _ => False) w w5 := by rw [← hw5]; (repeat (first | with_reducible exact Fr.refl _ _ | with_reducible assumption | with_reducible refine Fr.drew ?_ | with_reducible refine Fr.drewN ?_ _ | with_reducible refine Fr.alloc ?_ _ | with_reducible refine Fr.setIn ?_ (by first | exact Or.inl rfl | exact Or.inr (by simp; done) | exact Or.inr (by simp; omega) | exact Or.inr (by omega)) _))
    refine ⟨fun x hx => ?_, ?_, hF.weak _⟩
    · simp only [List.mem_cons, List.not_mem_nil, or_false] at hx
      rcases hx with rfl | rfl | rfl <;> (rw [← hs, ← hw5]; (repeat (first | with_reducible assumption | with_reducible refine Bl.drew ?_ | with_reducible refine Bl.drewN ?_ _ | with_reducible refine Bl.far ?_ (by first | (simp; done) | (simp; omega)) _ | with_reducible exact Bl.newAt (by simp) | with_reducible refine Bl.alloc ?_ _)))
    · rw [← hs, ← hw5]; (repeat (first | with_reducible assumption | with_reducible refine Bl.drew ?_ | with_reducible refine Bl.drewN ?_ _ | with_reducible refine Bl.far ?_ (by first | (simp; done) | (simp; omega)) _ | with_reducible exact Bl.newAt (by simp) | with_reducible refine Bl.alloc ?_ _))
  rw [hs]
  have hz : s ≤ w5.heap.size := by rw [← hs]; exact hJ0.fr.size
  clear hw5
  refine (wpIn_wide (n := 5)).1 ?_
  refine wpIn_rangeFunc_K (fun a x a' W => a' = a)
    rfl (by omega) (gf := 42) (lb := #[.pointer (some ⟨s + 5, 0, none⟩)]) rfl trivial (enters_of Try.func42 (by kernel_rfl) rfl)
    (all1_none 4 (by omega) (s + 5)) (fun x => rfl) (fun _ _ => trivial) (fun _ _ _ _ _ _ => trivial)
    (fun (_ : Unit) W => NJ w [(s + 1, 49, #[.pointer none]), (s + 3, 4, #[.bool false]), (s + 4, 3, #[.int .i64 0])] (s + 5) W) (fun _ _ _ => False) (fun _ _ h => h.bx) (fun _ _ _ h => h.elim) (fun _ _ _ _ _ h => h.elim) (fun _ _ _ _ _ h => h.elim) (NJ.own (by omega)) (fun _ _ _ _ _ h => h.elim) hJ0
    (fun _ _ _ _ _ _ h _ _ => h) (fun _ _ _ _ _ _ h _ => h.elim) (fun _ _ _ _ _ _ _ _ _ h => h.elim) ?done (fun _ _ _ _ _ _ h _ => h.elim)
  case done =>
    intro D r W hD _ hJ hW
    have hr := rat_nil W 0
    have b6 := hJ.bl (s + 3, 4, #[.bool false]) (by simp)
    have c4 : W.cell? ⟨s + 1, 0, none⟩ = some (.pointer none) := (hJ.bl (s + 1, 49, #[.pointer none]) (by simp)).cell' rfl
    have c6 : W.cell? ⟨s + 3, 0, none⟩ = some (.bool false) := b6.cell' rfl
    have c7 : W.cell? ⟨s + 4, 0, none⟩ = some (.int .i64 0) := (hJ.bl (s + 4, 3, #[.int .i64 0]) (by simp)).cell' rfl
    have z6 := b6.free 0
    have HJ := hide hJ
    have HW := hide hW
    have HD := hide hD
    have Hb6 := hide b6
    clear hJ hW hD hJ0 b6
    go_wp2_with fail
    refine hr.mono ?_
    rintro e w7 ⟨rfl, rfl⟩
    go_wp2_with fail
    have b6' : Bl W (s + 3) 4 #[.bool false] := Hb6.out
    have hF : Fr (fun x => x = s + 3) W (W.setCell ⟨s + 3, 0, none⟩ (.bool true)) := (Fr.refl _ _).setAt _
    have hDne : D ≠ s + 3 := fun e => by
      have h1 := HW.out
      rw [e] at h1
      unfold Bl at b6'
      rw [b6'] at h1
      cases h1
    have hD9 : (W.setCell ⟨s + 3, 0, none⟩ (.bool true)).heap[D]? = some (.deferred (some [])) := (hF.block D (Array.getElem?_eq_some_iff.1 HW.out).1 hDne).trans HW.out
    have hP : Fr (fun x => x = D) (W.setCell ⟨s + 3, 0, none⟩ (.bool true)) ((W.setCell ⟨s + 3, 0, none⟩ (.bool true)).putObj D (.deferred none)) := (Fr.ofGrown (grownBy_putObj' _ D _)).mono fun x _ e => by cases e; rfl
    refine ⟨by simp, .inl ⟨_, _, rfl, run_takeDeferred hD9, ?_⟩⟩
    have hl6 : Bl ((W.setCell ⟨s + 3, 0, none⟩ (.bool true)).putObj D (.deferred none)) (s + 3) 4 #[.bool true] := (b6'.set 0 (.bool true)).fr hP fun e => hDne e.symm
    refine ⟨_, results_cell1 rfl _ _ (s + 3) (.bool true) _ rfl (hl6.cell' rfl) Try.underlying4 rfl, rfl, ?_⟩
    have hD0 := HD.out
    exact ((HJ.out.fr.trans (hF.mono fun x _ e => by subst e; omega)).trans (hP.mono fun x _ e => by subst e; omega)).mono fun x hx e => by omega
end Go.Proofs.Yteleakbbppbnnaa
