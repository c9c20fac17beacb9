/-
  ring.Ring[int]: List.
-/
import Derived.Test.YteleakbbppbnnaaRg7
import Derived.RangeFuncWrites
namespace Go.Proofs.Yteleakbbppbnnaa
open Go.RowKit Go.Shelf
set_option linter.unusedVariables false
attribute [local go_sem] Oper.semAt_some

set_option maxRecDepth 100000
set_option maxHeartbeats 1000000 in
theorem all_any (w : World) (v : Value) (hv : ∃ p, v = .pointer p) :
    Calls Try.prog 24 #[v] w fun e w' => e = .returned (.func (.func 42) #[] #[.pointer (some ⟨w.heap.size, 0, none⟩)]) ∧ w.alloc (.cells #[v] 24) = w' := by
  obtain ⟨p, rfl⟩ := hv
  go_enter Try.func24, Try.ntmps24
  go_wp2
  go_ret
  exact ⟨rfl, rfl⟩
theorem boxed_from {β : Type} (B bx : Nat) (t : TypeId) (v : Value) : OwnFrom (β := β) B (fun _ W => Boxed W bx t v) := fun s W W' row hs hg hr => hs.kept hg (fun e => by
  obtain ⟨-, o, ho, hc⟩ := hr bx e.symm
  rw [show W.heap[bx]? = _ from hs] at ho; cases ho; cases hc)
set_option maxHeartbeats 4000000 in
theorem list_walk (w : World) (p : Nat) (g : Option Nat) (room : Nat) (xs : List Int) (h : RI w p g room xs) :
    Calls Try.prog 10 #[.pointer (some ⟨p, 0, none⟩)] w fun e W' => ∃ v, e = .returned v ∧ W'.ownsRow w.heap.size 3 1 v xs.zipIdx.length (xs.zipIdx.map fun x => iv x.1) ∧ Below w.heap.size w W' := by
  have hb := h.bounds
  obtain ⟨i0, hi, hz0, hz1, hz2⟩ := info_parts infoInt
  refine (callsIn_wide (n := 5)).1 ?_
  refine callsIn_of_wp_marks Try.func10 rfl trivial ?_ rfl
  simp only [Try.ntmps10, List.size_toArray, List.length_cons, List.length_nil, Nat.reduceAdd, Nat.reduceSub, Array.replicate_succ, Array.replicate_zero, List.push_toArray, List.append_toArray, List.nil_append, List.cons_append]
  gi_wp2
  refine ⟨trivial, (callsIn_wide.2 (all_any _ _ ⟨_, rfl⟩)).mono ?_⟩
  rintro e w' ⟨rfl, rfl⟩
  gi_wp2
  have bO := Boxed.new w 22 (.slice none 0 0)
  have bN := Boxed.new (w.alloc (.cells #[.slice none 0 0] 22)) 24 (.pointer (some ⟨p, 0, none⟩))
  rw [World.size_alloc] at bN
  have hB0 : Below w.heap.size w ((w.alloc (.cells #[.slice none 0 0] 22)).alloc (.cells #[.pointer (some ⟨p, 0, none⟩)] 24)) := ((Below.refl _ w).alloc (Nat.le_refl _) _).alloc (by simp) _
  have hI2 := h.below hB0 (fun b hb => h.lt hb)
  refine wpIn_rangeFunc_ownG rfl (by omega) (gf := 42) (lb := #[.pointer (some ⟨w.heap.size + 1, 0, none⟩)]) rfl trivial (enters_of Try.func42 (by kernel_rfl) rfl)
    (all1_stops 4 (by omega) (w.heap.size + 1) p w.heap.size g room xs _ bN.cell hI2 (fun b hb => h.lt hb) (by simp; omega)) KpR.t
    (fun W l o o' hl ho h1 h2 => ⟨belowK_b (w := (w.alloc (.cells #[.slice none 0 0] 22)).alloc (.cells #[.pointer (some ⟨p, 0, none⟩)] 24)) (by simp; omega) W l o o' hl ho h1 h2, World.putObj_heap_other (by simp at hl; omega)⟩)
    (Below.refl _ _) (fun _ => rfl)
    (fun (pre : List (Int × Nat)) W => (∃ v, Boxed W w.heap.size 22 v ∧ W.ownsRow w.heap.size 3 1 v pre.length (pre.map fun x => iv x.1) ∧ (fun (_ : List (Int × Nat)) (_ : Value) => True) pre v) ∧ Boxed W (w.heap.size + 1) 24 (.pointer (some ⟨p, 0, none⟩)) ∧ Below w.heap.size w W)
    (fun _ _ _ => False)
    (OwnFrom.and (Own.from (holdsRow_own w.heap.size w.heap.size 22 3 1 (fun (pre : List (Int × Nat)) => pre.length) (fun pre => pre.map fun x => iv x.1) (fun _ _ => True)) _) (OwnFrom.and (boxed_from _ _ _ _) (ownFrom_below (Nat.le_refl _) (by simp; omega))))
    (fun _ _ _ _ _ hs _ _ => hs)
    ⟨⟨_, bO.alloc _, World.ownsRow_nil _ _ _ _, trivial⟩, bN, hB0⟩
    (fun x => { tmps := #[.pointer (some ⟨p, 0, none⟩), undef, .slice none 0 0, .pointer (some ⟨w.heap.size, 0, none⟩), undef, .int .i64 x.1, .pointer (some ⟨p, 0, none⟩), .func (.func 42) #[] #[.pointer (some ⟨w.heap.size + 1, 0, none⟩)], .int .i64 (x.2 : Int), .int .i64 x.1, undef, undef, undef, undef, undef], defers := [] }) ?assign ?body ?done ?stop
  case assign =>
    intro l x W K hK
    simp only [encR]
    gi_wp2
    exact hK
  case body =>
    rintro l pre x W ⟨⟨v, hv, hrow, -⟩, hX, hB⟩ hlt
    have hc := hv.cell
    gi_wp2_with (gi_at_builtin; refine wpListIn_append_own _ rfl _ _ 22 rfl w.heap.size 3 i0 (.int .i64 0) 1 8 Try.underlying22 hi hz0 hz1 hz2 rfl (by decide) _ _ _ rfl (hrow.alloc _) ⟨W.heap.size, 0, none⟩ 1 1 [.int .i64 x.1] rfl rfl (cell_one_new _ _ _) (by simp [Value.oneCell']) (by unfold maxLen; omega) (by omega) (by have := hB.size; simp; omega) ?_; intro v' w1 hown' hgrow _; obtain ⟨g', cap', rfl⟩ := ownsRow_succ hown'; obtain ⟨hv1, hv2, hr2, hk2, hb2⟩ := hv.appended (by decide) hrow hB.size (Nat.le_refl _) hown' hgrow; have hX1 := (hX.alloc _).kept hgrow (hX.not_row (by decide) hrow); have hc1 := hv1.cell; have hf1 := hv1.frozen)
    have hX2 : Boxed (w1.setCell ⟨w.heap.size, 0, none⟩ (.slice (some ⟨g', 0, none⟩) (pre.length + 1) cap')) (w.heap.size + 1) 24 (.pointer (some ⟨p, 0, none⟩)) := hX1.kept (grownBy_setCell' _ _ _) (by simp)
    exact ⟨hk2.from _, ⟨hb2, hX2.trans hX.symm⟩, ⟨_, hv2, by rw [List.length_append, List.map_append]; exact hr2⟩, hX2, hB.trans hb2⟩
  case done =>
    rintro D ys W hD rfl ⟨⟨v, hv, hrow, -⟩, hX, hB⟩ hK
    have hc := hv.cell
    gi_wp2
    refine ⟨by simp, .inl ⟨_, _, rfl, run_takeDeferred hK, ?_⟩⟩
    exact ⟨_, results_tmp rfl _ _ _, v, rfl, ownsRow_putObj hrow _ hK rfl, hB.trans (belowK_b (w := w) (Nat.le_refl _) W D _ _ (by simp at hD; omega) hK rfl rfl)⟩
  case stop =>
    rintro D c pre W _ _ h _
    exact h.elim
/-- Behind a List: what was asked, in memory of its own. -/
def ListOut (w : World) (xs : List Int) (e : Ending) (w' : World) : Prop :=
  ∃ A c g, e = .returned (.slice A xs.length c) ∧ Ow w' 3 1 A xs.length c (xs.map iv) g ∧ (∀ b, g = some b → w.heap.size ≤ b) ∧ Fr (fun _ => False) w w'
theorem list_any (w : World) (p : Nat) (g : Option Nat) (room : Nat) (xs : List Int) (h : RI w p g room xs) :
    Calls Try.prog 10 #[.pointer (some ⟨p, 0, none⟩)] w fun e w' => ListOut w xs e w' := by
  refine (list_walk w p g room xs h).mono ?_
  rintro e w' ⟨v, rfl, hrow, hB⟩
  have e1 : xs.zipIdx.map (fun x => iv x.1) = xs.map iv := by
    have := congrArg (List.map iv) (List.zipIdx_map_fst 0 xs)
    rw [List.map_map] at this; exact this
  rw [List.length_zipIdx, e1] at hrow
  obtain ⟨A, c, g', rfl, ho, hn⟩ := Ow.ofOwns hrow
  exact ⟨A, c, g', rfl, ho, hn, (Fr.ofBelow hB).mono fun k hk e => by omega⟩
end Go.Proofs.Yteleakbbppbnnaa
