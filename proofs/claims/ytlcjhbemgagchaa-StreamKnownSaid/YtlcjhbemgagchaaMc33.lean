/-
  Texts merged into one, to keep the claim small: PrK2, PrK3.
-/
import Derived.Test.YtlcjhbemgagchaaMc17
import Derived.Test.YtlcjhbemgagchaaMc13
import Derived.Test.YtlcjhbemgagchaaMc21
section
/-
  proto: of, lacks (a closure of command), blank, Cost, Query; the reference's Cost and Query. (printed by pr_kinds.py)
-/
namespace Go.Proofs.Ytlcjhbemgagchaa
open Go.RowKit
set_option linter.unusedVariables false
set_option linter.unusedSimpArgs false
abbrev tCmd : TypeId := 31
theorem kind15 {k : Int} (h : 0 ≤ k ∧ k < 15) : ∃ j : Nat, j < 15 ∧ k = (j : Int) := ⟨k.toNat, by omega, by omega⟩
theorem hasI_none {k : Int} (h : k < 0 ∨ 15 ≤ k) : hasI k = 0 ∧ costI k = 0 := by
  unfold hasI costI
  rcases h with h | h
  · rw [if_neg (by omega), if_neg (by omega)]; exact ⟨rfl, rfl⟩
  · rw [if_pos (by omega), if_pos (by omega), List.getD_eq_getElem?_getD, List.getElem?_eq_none (by show 15 ≤ _; omega)]; exact ⟨rfl, rfl⟩
theorem kinds_at (w : World) (j : Nat) (hj : j < 15) (g : Nat) (t : TypeId) (hb : Bl w g t #[.int .i64 0, .int .i64 0, .int .i64 4, .int .i64 1, .int .i64 2, .int .i64 6, .int .i64 2, .int .i64 34, .int .i64 2, .int .i64 6, .int .i64 2, .int .i64 10, .int .i64 8, .int .i64 192, .int .i64 5, .int .i64 80, .int .i64 3, .int .i64 16, .int .i64 3, .int .i64 2, .int .i64 1, .int .i64 2, .int .i64 1, .int .i64 8, .int .i64 2, .int .i64 16, .int .i64 2, .int .i64 32, .int .i64 1, .int .i64 1]) : w.cell? ⟨g, j * 2, none⟩ = some (.int .i64 (costI (j : Int))) ∧ w.cell? ⟨g, j * 2 + 1, none⟩ = some (.int .i64 (hasI (j : Int))) := by
  match j, hj with
  | 0, _ => exact ⟨hb.cell' rfl, hb.cell' rfl⟩
  | 1, _ => exact ⟨hb.cell' rfl, hb.cell' rfl⟩
  | 2, _ => exact ⟨hb.cell' rfl, hb.cell' rfl⟩
  | 3, _ => exact ⟨hb.cell' rfl, hb.cell' rfl⟩
  | 4, _ => exact ⟨hb.cell' rfl, hb.cell' rfl⟩
  | 5, _ => exact ⟨hb.cell' rfl, hb.cell' rfl⟩
  | 6, _ => exact ⟨hb.cell' rfl, hb.cell' rfl⟩
  | 7, _ => exact ⟨hb.cell' rfl, hb.cell' rfl⟩
  | 8, _ => exact ⟨hb.cell' rfl, hb.cell' rfl⟩
  | 9, _ => exact ⟨hb.cell' rfl, hb.cell' rfl⟩
  | 10, _ => exact ⟨hb.cell' rfl, hb.cell' rfl⟩
  | 11, _ => exact ⟨hb.cell' rfl, hb.cell' rfl⟩
  | 12, _ => exact ⟨hb.cell' rfl, hb.cell' rfl⟩
  | 13, _ => exact ⟨hb.cell' rfl, hb.cell' rfl⟩
  | 14, _ => exact ⟨hb.cell' rfl, hb.cell' rfl⟩
  | j + 15, h => omega
set_option maxHeartbeats 1000000 in
set_option maxRecDepth 4000 in
theorem of_any (w : World) (k : Int) :
    Calls Try.prog 102 #[.int .i64 k] w fun e w' => e = .returned (.agg #[.int .i64 (costI k), .int .i64 (hasI k)]) ∧ Fr (fun _ => False) w w' := by
  have hb1 : Bl ((w.alloc (.cells #[.int .i64 0, .int .i64 0] 163)).alloc (.cells #[.int .i64 0, .int .i64 0, .int .i64 0, .int .i64 0, .int .i64 0, .int .i64 0, .int .i64 0, .int .i64 0, .int .i64 0, .int .i64 0, .int .i64 0, .int .i64 0, .int .i64 0, .int .i64 0, .int .i64 0, .int .i64 0, .int .i64 0, .int .i64 0, .int .i64 0, .int .i64 0, .int .i64 0, .int .i64 0, .int .i64 0, .int .i64 0, .int .i64 0, .int .i64 0, .int .i64 0, .int .i64 0, .int .i64 0, .int .i64 0] 206)) (w.heap.size + 1) 206 #[.int .i64 0, .int .i64 0, .int .i64 0, .int .i64 0, .int .i64 0, .int .i64 0, .int .i64 0, .int .i64 0, .int .i64 0, .int .i64 0, .int .i64 0, .int .i64 0, .int .i64 0, .int .i64 0, .int .i64 0, .int .i64 0, .int .i64 0, .int .i64 0, .int .i64 0, .int .i64 0, .int .i64 0, .int .i64 0, .int .i64 0, .int .i64 0, .int .i64 0, .int .i64 0, .int .i64 0, .int .i64 0, .int .i64 0, .int .i64 0] := Bl.newAt (by simp)
  have hset := setRow_alloc2 w (.cells #[.int .i64 0, .int .i64 0] 163) #[.int .i64 0, .int .i64 0, .int .i64 0, .int .i64 0, .int .i64 0, .int .i64 0, .int .i64 0, .int .i64 0, .int .i64 0, .int .i64 0, .int .i64 0, .int .i64 0, .int .i64 0, .int .i64 0, .int .i64 0, .int .i64 0, .int .i64 0, .int .i64 0, .int .i64 0, .int .i64 0, .int .i64 0, .int .i64 0, .int .i64 0, .int .i64 0, .int .i64 0, .int .i64 0, .int .i64 0, .int .i64 0, .int .i64 0, .int .i64 0] #[.int .i64 0, .int .i64 0, .int .i64 4, .int .i64 1, .int .i64 2, .int .i64 6, .int .i64 2, .int .i64 34, .int .i64 2, .int .i64 6, .int .i64 2, .int .i64 10, .int .i64 8, .int .i64 192, .int .i64 5, .int .i64 80, .int .i64 3, .int .i64 16, .int .i64 3, .int .i64 2, .int .i64 1, .int .i64 2, .int .i64 1, .int .i64 8, .int .i64 2, .int .i64 16, .int .i64 2, .int .i64 32, .int .i64 1, .int .i64 1] 206
  have HB0 : Hid (Bl ((w.alloc (.cells #[.int .i64 0, .int .i64 0] 163)).alloc (.cells #[.int .i64 0, .int .i64 0, .int .i64 4, .int .i64 1, .int .i64 2, .int .i64 6, .int .i64 2, .int .i64 34, .int .i64 2, .int .i64 6, .int .i64 2, .int .i64 10, .int .i64 8, .int .i64 192, .int .i64 5, .int .i64 80, .int .i64 3, .int .i64 16, .int .i64 3, .int .i64 2, .int .i64 1, .int .i64 2, .int .i64 1, .int .i64 8, .int .i64 2, .int .i64 16, .int .i64 2, .int .i64 32, .int .i64 1, .int .i64 1] 206)) w.heap.size 163 #[.int .i64 0, .int .i64 0]) := (Bl.new _ _ _).alloc _
  have HB1 : Hid (Bl ((w.alloc (.cells #[.int .i64 0, .int .i64 0] 163)).alloc (.cells #[.int .i64 0, .int .i64 0, .int .i64 4, .int .i64 1, .int .i64 2, .int .i64 6, .int .i64 2, .int .i64 34, .int .i64 2, .int .i64 6, .int .i64 2, .int .i64 10, .int .i64 8, .int .i64 192, .int .i64 5, .int .i64 80, .int .i64 3, .int .i64 16, .int .i64 3, .int .i64 2, .int .i64 1, .int .i64 2, .int .i64 1, .int .i64 8, .int .i64 2, .int .i64 16, .int .i64 2, .int .i64 32, .int .i64 1, .int .i64 1] 206)) (w.heap.size + 1) 206 #[.int .i64 0, .int .i64 0, .int .i64 4, .int .i64 1, .int .i64 2, .int .i64 6, .int .i64 2, .int .i64 34, .int .i64 2, .int .i64 6, .int .i64 2, .int .i64 10, .int .i64 8, .int .i64 192, .int .i64 5, .int .i64 80, .int .i64 3, .int .i64 16, .int .i64 3, .int .i64 2, .int .i64 1, .int .i64 2, .int .i64 1, .int .i64 8, .int .i64 2, .int .i64 16, .int .i64 2, .int .i64 32, .int .i64 1, .int .i64 1]) := Bl.newAt (by simp)
  unfold Bl at hb1
  by_cases h0 : k < 0
  · have hz := hasI_none (k := k) (.inl h0)
    have HZ := hide hz
    have i1 : decide (k < 0) = true := decide_eq_true h0
    clear hz
    go_enter Try.func102, Try.ntmps102
    go_wp2_with (refine wpList_store_at rfl 206 _ _ rfl (w.heap.size + 1) 0 #[.int .i64 0, .int .i64 0, .int .i64 4, .int .i64 1, .int .i64 2, .int .i64 6, .int .i64 2, .int .i64 34, .int .i64 2, .int .i64 6, .int .i64 2, .int .i64 10, .int .i64 8, .int .i64 192, .int .i64 5, .int .i64 80, .int .i64 3, .int .i64 16, .int .i64 3, .int .i64 2, .int .i64 1, .int .i64 2, .int .i64 1, .int .i64 8, .int .i64 2, .int .i64 16, .int .i64 2, .int .i64 32, .int .i64 1, .int .i64 1] rfl rfl 206 _ #[.int .i64 0, .int .i64 0, .int .i64 4, .int .i64 1, .int .i64 2, .int .i64 6, .int .i64 2, .int .i64 34, .int .i64 2, .int .i64 6, .int .i64 2, .int .i64 10, .int .i64 8, .int .i64 192, .int .i64 5, .int .i64 80, .int .i64 3, .int .i64 16, .int .i64 3, .int .i64 2, .int .i64 1, .int .i64 2, .int .i64 1, .int .i64 8, .int .i64 2, .int .i64 16, .int .i64 2, .int .i64 32, .int .i64 1, .int .i64 1] hb1 (by kernel_rfl) 30 30 rfl rfl (by decide) rfl rfl ?_; rw [hset])
    have hB3 : Bl ((w.alloc (.cells #[.int .i64 0, .int .i64 0] 163)).alloc (.cells #[.int .i64 0, .int .i64 0, .int .i64 4, .int .i64 1, .int .i64 2, .int .i64 6, .int .i64 2, .int .i64 34, .int .i64 2, .int .i64 6, .int .i64 2, .int .i64 10, .int .i64 8, .int .i64 192, .int .i64 5, .int .i64 80, .int .i64 3, .int .i64 16, .int .i64 3, .int .i64 2, .int .i64 1, .int .i64 2, .int .i64 1, .int .i64 8, .int .i64 2, .int .i64 16, .int .i64 2, .int .i64 32, .int .i64 1, .int .i64 1] 206)) w.heap.size 163 #[.int .i64 (costI k), .int .i64 (hasI k)] := by rw [HZ.out.1, HZ.out.2]; exact HB0.out
    try simp only [Exit.inBlock, Exit.then]
    refine bodyPost_ret (results_cell_row rfl _ _ w.heap.size 163 #[.int .i64 (costI k), .int .i64 (hasI k)] (0, 0) _ rfl hB3 Try.underlying163 rfl (by kernel_rfl)) rfl ?_
    exact ⟨rfl, ((Fr.refl _ _).alloc _).alloc _⟩
  have i1 : decide (k < 0) = false := decide_eq_false h0
  by_cases h1 : 15 ≤ k
  · have hz := hasI_none (k := k) (.inr h1)
    have HZ := hide hz
    have i2 : decide ((15 : Int) ≤ k) = true := decide_eq_true h1
    clear hz
    go_enter Try.func102, Try.ntmps102
    go_wp2_with (refine wpList_store_at rfl 206 _ _ rfl (w.heap.size + 1) 0 #[.int .i64 0, .int .i64 0, .int .i64 4, .int .i64 1, .int .i64 2, .int .i64 6, .int .i64 2, .int .i64 34, .int .i64 2, .int .i64 6, .int .i64 2, .int .i64 10, .int .i64 8, .int .i64 192, .int .i64 5, .int .i64 80, .int .i64 3, .int .i64 16, .int .i64 3, .int .i64 2, .int .i64 1, .int .i64 2, .int .i64 1, .int .i64 8, .int .i64 2, .int .i64 16, .int .i64 2, .int .i64 32, .int .i64 1, .int .i64 1] rfl rfl 206 _ #[.int .i64 0, .int .i64 0, .int .i64 4, .int .i64 1, .int .i64 2, .int .i64 6, .int .i64 2, .int .i64 34, .int .i64 2, .int .i64 6, .int .i64 2, .int .i64 10, .int .i64 8, .int .i64 192, .int .i64 5, .int .i64 80, .int .i64 3, .int .i64 16, .int .i64 3, .int .i64 2, .int .i64 1, .int .i64 2, .int .i64 1, .int .i64 8, .int .i64 2, .int .i64 16, .int .i64 2, .int .i64 32, .int .i64 1, .int .i64 1] hb1 (by kernel_rfl) 30 30 rfl rfl (by decide) rfl rfl ?_; rw [hset])
    have hB3 : Bl ((w.alloc (.cells #[.int .i64 0, .int .i64 0] 163)).alloc (.cells #[.int .i64 0, .int .i64 0, .int .i64 4, .int .i64 1, .int .i64 2, .int .i64 6, .int .i64 2, .int .i64 34, .int .i64 2, .int .i64 6, .int .i64 2, .int .i64 10, .int .i64 8, .int .i64 192, .int .i64 5, .int .i64 80, .int .i64 3, .int .i64 16, .int .i64 3, .int .i64 2, .int .i64 1, .int .i64 2, .int .i64 1, .int .i64 8, .int .i64 2, .int .i64 16, .int .i64 2, .int .i64 32, .int .i64 1, .int .i64 1] 206)) w.heap.size 163 #[.int .i64 (costI k), .int .i64 (hasI k)] := by rw [HZ.out.1, HZ.out.2]; exact HB0.out
    try simp only [Exit.inBlock, Exit.then]
    refine bodyPost_ret (results_cell_row rfl _ _ w.heap.size 163 #[.int .i64 (costI k), .int .i64 (hasI k)] (0, 0) _ rfl hB3 Try.underlying163 rfl (by kernel_rfl)) rfl ?_
    exact ⟨rfl, ((Fr.refl _ _).alloc _).alloc _⟩
  have i2 : decide ((15 : Int) ≤ k) = false := decide_eq_false h1
  obtain ⟨j, hj, rfl⟩ := kind15 (k := k) (by omega)
  obtain ⟨c0, c1⟩ := kinds_at _ j hj _ _ HB1.out
  have i3 : (0 : Int) ≤ (j : Int) := by omega
  have i4 : (j : Int) < 15 := by omega
  have d0 := HB0.out.cell' (i := 0) rfl
  have d1 := HB0.out.cell' (i := 1) rfl
  have y0 := HB0.out.free 0
  have y1 := HB0.out.free 1
  obtain ⟨cv, hcv⟩ : ∃ cv, costI (j : Int) = cv := ⟨_, rfl⟩
  obtain ⟨hv, hhv⟩ : ∃ hv, hasI (j : Int) = hv := ⟨_, rfl⟩
  rw [hcv] at c0 ⊢
  rw [hhv] at c1 ⊢
  clear h0 h1 hcv hhv
  go_enter Try.func102, Try.ntmps102
  go_wp2_with (refine wpList_store_at rfl 206 _ _ rfl (w.heap.size + 1) 0 #[.int .i64 0, .int .i64 0, .int .i64 4, .int .i64 1, .int .i64 2, .int .i64 6, .int .i64 2, .int .i64 34, .int .i64 2, .int .i64 6, .int .i64 2, .int .i64 10, .int .i64 8, .int .i64 192, .int .i64 5, .int .i64 80, .int .i64 3, .int .i64 16, .int .i64 3, .int .i64 2, .int .i64 1, .int .i64 2, .int .i64 1, .int .i64 8, .int .i64 2, .int .i64 16, .int .i64 2, .int .i64 32, .int .i64 1, .int .i64 1] rfl rfl 206 _ #[.int .i64 0, .int .i64 0, .int .i64 4, .int .i64 1, .int .i64 2, .int .i64 6, .int .i64 2, .int .i64 34, .int .i64 2, .int .i64 6, .int .i64 2, .int .i64 10, .int .i64 8, .int .i64 192, .int .i64 5, .int .i64 80, .int .i64 3, .int .i64 16, .int .i64 3, .int .i64 2, .int .i64 1, .int .i64 2, .int .i64 1, .int .i64 8, .int .i64 2, .int .i64 16, .int .i64 2, .int .i64 32, .int .i64 1, .int .i64 1] hb1 (by kernel_rfl) 30 30 rfl rfl (by decide) rfl rfl ?_; rw [hset])
  have hB3 : Bl ((w.alloc (.cells #[.int .i64 cv, .int .i64 hv] 163)).alloc (.cells #[.int .i64 0, .int .i64 0, .int .i64 4, .int .i64 1, .int .i64 2, .int .i64 6, .int .i64 2, .int .i64 34, .int .i64 2, .int .i64 6, .int .i64 2, .int .i64 10, .int .i64 8, .int .i64 192, .int .i64 5, .int .i64 80, .int .i64 3, .int .i64 16, .int .i64 3, .int .i64 2, .int .i64 1, .int .i64 2, .int .i64 1, .int .i64 8, .int .i64 2, .int .i64 16, .int .i64 2, .int .i64 32, .int .i64 1, .int .i64 1] 206)) w.heap.size 163 #[.int .i64 cv, .int .i64 hv] := (Bl.new _ _ _).alloc _
  try simp only [Exit.inBlock, Exit.then]
  refine bodyPost_ret (results_cell_row rfl _ _ w.heap.size 163 #[.int .i64 cv, .int .i64 hv] (0, 0) _ rfl hB3 Try.underlying163 rfl (by kernel_rfl)) rfl ?_
  exact ⟨rfl, ((Fr.refl _ _).alloc _).alloc _⟩

end Go.Proofs.Ytlcjhbemgagchaa
end

section
/-
  proto: lacks (a closure of command), blank, Cost, Query; the reference's Cost and Query. (printed by pr_kinds3.py)
-/
namespace Go.Proofs.Ytlcjhbemgagchaa
open Go.RowKit
set_option linter.unusedVariables false
set_option linter.unusedSimpArgs false
theorem field_0 (a b : Int) (w : World) : (Instr.field 163 (.agg #[.int .i64 a, .int .i64 b]) 0).run Try.prog w = .ok (.int .i64 a) w := by kernel_rfl
theorem field_1 (a b : Int) (w : World) : (Instr.field 163 (.agg #[.int .i64 a, .int .i64 b]) 1).run Try.prog w = .ok (.int .i64 b) w := by kernel_rfl
set_option maxHeartbeats 1000000 in
set_option maxRecDepth 4000 in
theorem lacks_any (w : World) (g : Nat) (hs f : Int) (em B : Bool) (t : TypeId) (hb : Bl w g t #[.int .i64 hs]) (hB : (bits .and .i64 hs f != 0) = B) :
    Calls Try.prog 103 #[.int .i64 f, .bool em, .pointer (some ⟨g, 0, none⟩)] w fun e w' => e = .returned (.bool (B || em)) ∧ w = w' := by
  have c0 := hb.cell' (i := 0) rfl
  clear hb
  cases B <;> cases em
  all_goals go_enter Try.func103, Try.ntmps103
  all_goals go_wp2_with fail
  all_goals go_ret
  all_goals exact ⟨rfl, rfl⟩
theorem neg64 {z : Int} (h : 0 ≤ z ∧ z ≤ 1125899906842624) : IntKind.i64.wrap (-z) = -z := IntWalk.i64_in _ (by omega)
set_option maxHeartbeats 2000000 in
set_option maxRecDepth 4000 in
theorem blank_any (w : World) (r : CR) (hok : r.ok = true) (hn : r.n = r.es.length) :
    Calls Try.prog 107 #[.agg #[.int .i64 r.num, .int .i64 r.kind, .int .i64 r.by_, .int .i64 r.dl, .int .i64 r.to_, .int .i64 r.want, .int .u64 (r.pr : Int), .int .u64 (r.rs : Int), .int .u64 (r.st : Int), .int .i64 r.of_, .slice r.A r.n r.c]] w fun e w' => e = .returned (.bool r.blank) ∧ Fr (fun _ => False) w w' := by
  obtain ⟨h1, h2, h3⟩ := CR.ok_split hok
  have a : ∀ z ∈ r.seven, 0 ≤ z ∧ z ≤ 1125899906842624 := fun z hz => okL_mem h3 hz
  have b1 := neg64 (a r.num (by simp [CR.seven]))
  have b2 := neg64 (a r.kind (by simp [CR.seven]))
  have b3 := neg64 (a r.by_ (by simp [CR.seven]))
  have b4 := neg64 (a r.dl (by simp [CR.seven]))
  have b5 := neg64 (a r.to_ (by simp [CR.seven]))
  have b6 := neg64 (a r.want (by simp [CR.seven]))
  have b7 := neg64 (a r.of_ (by simp [CR.seven]))
  obtain ⟨num, kind, by_, dl, to_, want, pr, rs, st, of_, A, n, c, es⟩ := r
  simp only at hn b1 b2 b3 b4 b5 b6 b7 ⊢
  obtain ⟨q1, hq1⟩ : ∃ q1, -num = q1 := ⟨_, rfl⟩
  obtain ⟨q2, hq2⟩ : ∃ q2, -kind = q2 := ⟨_, rfl⟩
  obtain ⟨q3, hq3⟩ : ∃ q3, -by_ = q3 := ⟨_, rfl⟩
  obtain ⟨q4, hq4⟩ : ∃ q4, -dl = q4 := ⟨_, rfl⟩
  obtain ⟨q5, hq5⟩ : ∃ q5, -to_ = q5 := ⟨_, rfl⟩
  obtain ⟨q6, hq6⟩ : ∃ q6, -want = q6 := ⟨_, rfl⟩
  obtain ⟨q7, hq7⟩ : ∃ q7, -of_ = q7 := ⟨_, rfl⟩
  have HB : Hid (CR.blank ⟨num, kind, by_, dl, to_, want, pr, rs, st, of_, A, n, c, es⟩ = (okL [q1, q2, q3, q4, q5, q6, q7] && decide (pr = 0) && decide (rs = 0) && decide (st = 0) && decide (n = 0))) := by
    show CR.blank _ = _
    unfold CR.blank
    simp only
    rw [hq1, hq2, hq3, hq4, hq5, hq6, hq7, hn]
  rw [hq1] at b1
  rw [hq2] at b2
  rw [hq3] at b3
  rw [hq4] at b4
  rw [hq5] at b5
  rw [hq6] at b6
  rw [hq7] at b7
  have HN := hide (fun b (hb : okL [q1, q2, q3, q4, q5, q6, q7] = b) => numbers_lit (w.alloc (.cells #[.int .i64 num, .int .i64 kind, .int .i64 by_, .int .i64 dl, .int .i64 to_, .int .i64 want, .int .u64 (pr : Int), .int .u64 (rs : Int), .int .u64 (st : Int), .int .i64 of_, .slice A n c] 29)) [q1, q2, q3, q4, q5, q6, q7] (w.heap.size + 1) 7 (by simp) rfl (by omega) #[.int .i64 q1, .int .i64 q2, .int .i64 q3, .int .i64 q4, .int .i64 q5, .int .i64 q6, .int .i64 q7] rfl hb)
  clear h1 h2 h3 a hok hn
  cases h1 : okL [q1, q2, q3, q4, q5, q6, q7] with
  | false =>
    have hr : Hid (CR.blank ⟨num, kind, by_, dl, to_, want, pr, rs, st, of_, A, n, c, es⟩ = false) := by
      show CR.blank _ = _
      rw [HB.out, h1]; simp
    go_enter Try.func107, Try.ntmps107
    go_wp2_with fail
    refine (HN.out _ h1).mono ?_
    rintro e w' ⟨rfl, rfl⟩
    go_wp2_with fail
    go_ret
    exact ⟨by rw [hr.out]; rfl, ((Fr.refl _ _).alloc _).alloc _⟩
  | true =>
    have hr : Hid (CR.blank ⟨num, kind, by_, dl, to_, want, pr, rs, st, of_, A, n, c, es⟩ = (decide (pr = 0) && decide (rs = 0) && decide (st = 0) && decide (n = 0))) := by
      show CR.blank _ = _
      rw [HB.out, h1]; simp
    clear HB
    by_cases k0 : pr = 0
    rotate_left
    · have e0 : decide ((pr : Int) = 0) = false := decide_eq_false (by omega)
      have f0 : ¬ ((pr : Int) = 0) := by omega
      have K0 := hide k0
      clear k0
      go_enter Try.func107, Try.ntmps107
      go_wp2_with fail
      refine (HN.out _ h1).mono ?_
      rintro e w' ⟨rfl, rfl⟩
      go_wp2_with fail
      go_ret
      exact ⟨by rw [hr.out]; simp [K0.out], ((Fr.refl _ _).alloc _).alloc _⟩
    subst k0
    by_cases k1 : rs = 0
    rotate_left
    · have e1 : decide ((rs : Int) = 0) = false := decide_eq_false (by omega)
      have f1 : ¬ ((rs : Int) = 0) := by omega
      have K1 := hide k1
      clear k1
      go_enter Try.func107, Try.ntmps107
      go_wp2_with fail
      refine (HN.out _ h1).mono ?_
      rintro e w' ⟨rfl, rfl⟩
      go_wp2_with fail
      go_ret
      exact ⟨by rw [hr.out]; simp [K1.out], ((Fr.refl _ _).alloc _).alloc _⟩
    subst k1
    by_cases k2 : st = 0
    rotate_left
    · have e2 : decide ((st : Int) = 0) = false := decide_eq_false (by omega)
      have f2 : ¬ ((st : Int) = 0) := by omega
      have K2 := hide k2
      clear k2
      go_enter Try.func107, Try.ntmps107
      go_wp2_with fail
      refine (HN.out _ h1).mono ?_
      rintro e w' ⟨rfl, rfl⟩
      go_wp2_with fail
      go_ret
      exact ⟨by rw [hr.out]; simp [K2.out], ((Fr.refl _ _).alloc _).alloc _⟩
    subst k2
    by_cases k3 : n = 0
    rotate_left
    · have e3 : decide ((n : Int) = 0) = false := decide_eq_false (by omega)
      have f3 : ¬ ((n : Int) = 0) := by omega
      have K3 := hide k3
      clear k3
      go_enter Try.func107, Try.ntmps107
      go_wp2_with fail
      refine (HN.out _ h1).mono ?_
      rintro e w' ⟨rfl, rfl⟩
      go_wp2_with fail
      go_ret
      exact ⟨by rw [hr.out]; simp [K3.out], ((Fr.refl _ _).alloc _).alloc _⟩
    subst k3
    go_enter Try.func107, Try.ntmps107
    go_wp2_with fail
    refine (HN.out _ h1).mono ?_
    rintro e w' ⟨rfl, rfl⟩
    go_wp2_with fail
    go_ret
    exact ⟨by rw [hr.out]; simp [], ((Fr.refl _ _).alloc _).alloc _⟩
theorem cost_max {k : Int} : (1 ≤ k ∧ k ≤ 14 ∧ costI k = ([1, 4, 2, 2, 2, 2, 8, 5, 3, 3, 1, 1, 2, 2, 1].getD k.toNat 0 : Int)) ∨ ((k < 1 ∨ 14 < k) ∧ costI k = 0) := by
  by_cases h : 1 ≤ k ∧ k ≤ 14
  · exact .inl (kind_cases h (fun k => 1 ≤ k ∧ k ≤ 14 ∧ costI k = ([1, 4, 2, 2, 2, 2, 8, 5, 3, 3, 1, 1, 2, 2, 1].getD k.toNat 0 : Int)) (by decide) (by decide) (by decide) (by decide) (by decide) (by decide) (by decide) (by decide) (by decide) (by decide) (by decide) (by decide) (by decide) (by decide))
  · refine .inr ⟨by omega, ?_⟩
    by_cases h0 : k = 0
    · subst h0; rfl
    · exact (hasI_none (by omega)).2
/-- What a command costs. -/
def costK (k : Int) : Int := if 1 ≤ k ∧ k ≤ 14 then costI k else 1
theorem costK_max (k : Int) : (if (1 : Int) ≤ costI k then costI k else 1) = costK k := by
  unfold costK
  by_cases h : 1 ≤ k ∧ k ≤ 14
  · rw [if_pos h, if_pos]
    exact kind_cases h (fun k => 1 ≤ costI k) (by decide) (by decide) (by decide) (by decide) (by decide) (by decide) (by decide) (by decide) (by decide) (by decide) (by decide) (by decide) (by decide) (by decide)
  · rw [if_neg h]
    have : costI k = 0 := by
      by_cases h0 : k = 0
      · subst h0; rfl
      · exact (hasI_none (by omega)).2
    rw [this, if_neg (by omega)]
theorem costs_at (w : World) (j : Nat) (hj : 1 ≤ j ∧ j ≤ 14) (g : Nat) (t : TypeId) (hb : Bl w g t #[.int .i64 1, .int .i64 4, .int .i64 2, .int .i64 2, .int .i64 2, .int .i64 2, .int .i64 8, .int .i64 5, .int .i64 3, .int .i64 3, .int .i64 1, .int .i64 1, .int .i64 2, .int .i64 2, .int .i64 1]) : w.cell? ⟨g, j, none⟩ = some (.int .i64 (costI (j : Int))) := by
  match j, hj with
  | 0, h => omega
  | 1, _ => exact hb.cell' rfl
  | 2, _ => exact hb.cell' rfl
  | 3, _ => exact hb.cell' rfl
  | 4, _ => exact hb.cell' rfl
  | 5, _ => exact hb.cell' rfl
  | 6, _ => exact hb.cell' rfl
  | 7, _ => exact hb.cell' rfl
  | 8, _ => exact hb.cell' rfl
  | 9, _ => exact hb.cell' rfl
  | 10, _ => exact hb.cell' rfl
  | 11, _ => exact hb.cell' rfl
  | 12, _ => exact hb.cell' rfl
  | 13, _ => exact hb.cell' rfl
  | 14, _ => exact hb.cell' rfl
  | j + 15, h => omega
end Go.Proofs.Ytlcjhbemgagchaa
end
