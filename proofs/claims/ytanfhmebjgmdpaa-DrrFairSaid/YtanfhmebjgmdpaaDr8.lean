/-
  drr's law: made.
-/
import Derived.Test.YtanfhmebjgmdpaaDr6
import Derived.Deep.CutBlock
namespace Go.Proofs.Ytanfhmebjgmdpaa
open Go.RowKit
set_option linter.unusedVariables false
namespace Qj
def in64 (x : Int) : Prop := -9223372036854775808 ≤ x ∧ x ≤ 9223372036854775807
theorem Made.widen {w w1 w2 w3 : World} {n room q d L : Nat} {s : DS X} (h : Made w1 n room q d L s w2) (hf : Fr (fun _ => False) w w1) (hf3 : Fr (fun x => w.heap.size ≤ x ∧ x < w1.heap.size) w2 w3) : Made w n room q d L s w3 := by
  obtain ⟨h1, h2, h3, h4, h5, h6, h7, h8⟩ := h
  refine ⟨fun D hD hD' => (h1 D hD hD').fr hf3 fun x hx e => by have := h8 x hx; omega, h2, h3, h4, h5, h6, (hf.trans h7).comp hf3 fun i hi e => by omega, fun x hx => Nat.le_trans hf.size (h8 x hx)⟩
theorem results_tmp_cell {P : Program} {fn : Func} {p u : Tmp} {ty : TypeId} (h : fn.results = #[.tmp u, .cell p ty]) (tmps : Array Value) (w : World) (g : Nat) (t : TypeId) (cs : Array Value) (fr : Nat × Nat) (d : TypeDesc)
    (hp : tmps.getD p undef = .pointer (some ⟨g, 0, none⟩)) (hg : w.heap[g]? = some (.cells cs t fr))
    (hu : P.underlying ty = some d) (hd : (match d with | .struct _ | .array _ _ => true | _ => false) = true) (hi : (P.info? ty).map (·.size) = some cs.size) :
    (results fn tmps).run P w = .ok (.tuple #[tmps.getD u undef, .agg cs]) w := by
  have hp' : tmps[p]?.getD undef = .pointer (some ⟨g, 0, none⟩) := by simpa using hp
  simp [results, h, hp', asAddr, run_loadVar_row w g t ty cs fr d hg hu hd hi]
set_option maxHeartbeats 4000000 in
set_option maxRecDepth 20000 in
theorem made_any (w : World) (a b c : Int) (ha : in64 a) (hb : in64 b) (hc : in64 c) :
    Calls Try.prog 7 #[.agg #[.int .i64 a, .int .i64 b, .int .i64 c]] w fun e w' => ∃ (n room q d L : Nat) (s : DS X), (n : Int) = 1 + a % 12 ∧ (room : Int) = 1 + b % 40 ∧ (q : Int) = 8 + c % 1017 ∧
      e = .returned (.tuple #[.pointer (some ⟨d, 0, none⟩), .agg #[.int .i64 (n : Int), .int .i64 (room : Int), .int .i64 (q : Int)]]) ∧ Made w n room q d L s w' := by
  obtain ⟨w0, hw0⟩ : ∃ w0, (w.alloc (.cells #[.int .i64 a, .int .i64 b, .int .i64 c] 23)).alloc (.cells #[.int .i64 0, .int .i64 0, .int .i64 0] 23) = w0 := ⟨_, rfl⟩
  have hF0 : Fr (fun _ => False) w w0 := by rw [← hw0]; exact ((Fr.refl _ _).alloc _).alloc _
  have hX : Bl w0 w.heap.size 23 #[.int .i64 a, .int .i64 b, .int .i64 c] := by rw [← hw0]; exact (Bl.new _ _ _).alloc _
  have hR : Bl w0 (w.heap.size + 1) 23 #[.int .i64 0, .int .i64 0, .int .i64 0] := by rw [← hw0]; exact Bl.newAt (by simp)
  obtain ⟨n, hn⟩ : ∃ n : Nat, (n : Int) = 1 + a % 12 := ⟨(1 + a % 12).toNat, by have := Int.emod_nonneg a (show (12 : Int) ≠ 0 by omega); omega⟩
  obtain ⟨room, hr⟩ : ∃ n : Nat, (n : Int) = 1 + b % 40 := ⟨(1 + b % 40).toNat, by have := Int.emod_nonneg b (show (40 : Int) ≠ 0 by omega); omega⟩
  obtain ⟨q, hq⟩ : ∃ n : Nat, (n : Int) = 8 + c % 1017 := ⟨(8 + c % 1017).toNat, by have := Int.emod_nonneg c (show (1017 : Int) ≠ 0 by omega); omega⟩
  have r1 := fun w => round_any w a 12 (by omega) (by omega) ha
  have r2 := fun w => round_any w b 40 (by omega) (by omega) hb
  have r3 := fun w => round_any w c 1017 (by omega) (by omega) hc
  have a1 := Int.emod_nonneg a (show (12 : Int) ≠ 0 by omega)
  have a2 := Int.emod_lt_of_pos a (show (0 : Int) < 12 by omega)
  have b1 := Int.emod_nonneg b (show (40 : Int) ≠ 0 by omega)
  have b2 := Int.emod_lt_of_pos b (show (0 : Int) < 40 by omega)
  have c1 := Int.emod_nonneg c (show (1017 : Int) ≠ 0 by omega)
  have c2 := Int.emod_lt_of_pos c (show (0 : Int) < 1017 by omega)
  have H1 := hide hn
  have H2 := hide hr
  have H3 := hide hq
  obtain ⟨xa, hxa⟩ : ∃ z, a % 12 = z := ⟨_, rfl⟩
  obtain ⟨xb, hxb⟩ : ∃ z, b % 40 = z := ⟨_, rfl⟩
  obtain ⟨xc', hxc⟩ : ∃ z, c % 1017 = z := ⟨_, rfl⟩
  rw [hxa] at hn a1 a2
  rw [hxb] at hr b1 b2
  rw [hxc] at hq c1 c2
  simp only [hxa] at r1
  simp only [hxb] at r2
  simp only [hxc] at r3
  have i1 : IntKind.i64.wrap (1 + xa) = (n : Int) := by rw [hn]; exact IntWalk.i64_in _ (by omega)
  have i2 : IntKind.i64.wrap (1 + xb) = (room : Int) := by rw [hr]; exact IntWalk.i64_in _ (by omega)
  have i3 : IntKind.i64.wrap (8 + xc') = (q : Int) := by rw [hq]; exact IntWalk.i64_in _ (by omega)
  have hN := New_ok
  have HN : Hid (∀ w1, Calls Try.prog 24 #[.int .i64 (n : Int), .int .i64 (room : Int), .int .i64 (q : Int)] w1 fun e w' => ∃ (d L : Nat) (s : DS X), e = .returned (.tuple #[.pointer (some ⟨d, 0, none⟩), .int .i64 0]) ∧ Made w1 n room q d L s w') := fun w1 => New_ok w1 n room q (by omega) (by omega) (by omega) (by omega) (by omega) (by omega)
  have k0 : ∀ w', Fr (fun _ => False) w0 w' → w'.cell? ⟨w.heap.size, 0, none⟩ = some (.int .i64 a) := fun w' hf => (hX.fr hf id).cell' rfl
  have k1 : ∀ w', Fr (fun _ => False) w0 w' → w'.cell? ⟨w.heap.size, 1, none⟩ = some (.int .i64 b) := fun w' hf => (hX.fr hf id).cell' rfl
  have k2 : ∀ w', Fr (fun _ => False) w0 w' → w'.cell? ⟨w.heap.size, 2, none⟩ = some (.int .i64 c) := fun w' hf => (hX.fr hf id).cell' rfl
  have hS0 : Fr (fun _ => False) w0 w0 := Fr.refl _ _
  have hS1 : Fr (fun _ => False) w0 (w0.alloc (.cells #[.int .i64 (n : Int), .int .i64 (room : Int), .int .i64 (q : Int)] 23)).drew := ((Fr.refl _ _).alloc _).drew
  have HF0 := hide hF0
  have HR := hide hR
  have hsz : w.heap.size + 2 = w0.heap.size := by rw [← hw0]; simp
  have HSZ := hide hsz
  clear hn hr hq hxa hxb hxc a1 a2 b1 b2 c1 c2 hN hF0 hX hR ha hb hc hsz
  go_enter Try.func7, Try.ntmps7
  go_upto_region 1 with fail
  (try rw [hw0])
  clear hw0
  go_cut [4] (fun s4 wx => s4 = .pointer (some ⟨w0.heap.size, 0, none⟩) ∧ wx = (w0.alloc (.cells #[.int .i64 (n : Int), .int .i64 (room : Int), .int .i64 (q : Int)] 23)).drew)
  case first =>
    go_region_held3 (fun w' => Fr (fun _ => False) w0 w') (first | assumption | exact Fr.drew (by assumption) | exact Fr.alloc (by assumption) _)
      (first
        | (go_at_call 9; ((with_reducible refine (r1 _).mono ?_); rintro e w4 ⟨rfl, rfl⟩))
        | (go_at_call 9; ((with_reducible refine (r2 _).mono ?_); rintro e w4 ⟨rfl, rfl⟩))
        | (go_at_call 9; ((with_reducible refine (r3 _).mono ?_); rintro e w4 ⟨rfl, rfl⟩)))
    all_goals (go_wp2_with fail; go_meet)
    all_goals (case rel => exact ⟨rfl, rfl⟩)
  case rest =>
  obtain ⟨rfl, hwc⟩ := hcut
  obtain rfl := hwc.symm
  obtain ⟨w1, hw1⟩ : ∃ w1, (w0.alloc (.cells #[.int .i64 (n : Int), .int .i64 (room : Int), .int .i64 (q : Int)] 23)).drew = w1 := ⟨_, rfl⟩
  have hF1 : Fr (fun _ => False) w0 w1 := by rw [← hw1]; exact hS1
  have hY1 : Bl w1 w0.heap.size 23 #[.int .i64 (n : Int), .int .i64 (room : Int), .int .i64 (q : Int)] := by rw [← hw1]; exact (Bl.new _ _ _).drew
  have y0 : w1.cell? ⟨w0.heap.size, 0, none⟩ = some (.int .i64 (n : Int)) := hY1.cell' rfl
  have y1 : w1.cell? ⟨w0.heap.size, 1, none⟩ = some (.int .i64 (room : Int)) := hY1.cell' rfl
  have y2 : w1.cell? ⟨w0.heap.size, 2, none⟩ = some (.int .i64 (q : Int)) := hY1.cell' rfl
  have HY1 := hide hY1
  have HF1 := hide hF1
  clear k0 k1 k2 hS0 hS1 i1 i2 i3 r1 r2 r3 hY1 hF1
  (try rw [hw1])
  clear hw1
  go_wp2_with fail
  refine (HN.out w1).mono ?_
  rintro e w2 ⟨d, L, s, rfl, hm⟩
  have HM := hide hm
  have hY2 := HY1.out.fr hm.2.2.2.2.2.2.1 id
  have hR2 := (HR.out.fr HF1.out id).fr hm.2.2.2.2.2.2.1 id
  have v0 : w2.cell? ⟨w0.heap.size, 0, none⟩ = some (.int .i64 (n : Int)) := hY2.cell' rfl
  have v1 : w2.cell? ⟨w0.heap.size, 1, none⟩ = some (.int .i64 (room : Int)) := hY2.cell' rfl
  have v2 : w2.cell? ⟨w0.heap.size, 2, none⟩ = some (.int .i64 (q : Int)) := hY2.cell' rfl
  have u0 : w2.cell? ⟨w.heap.size + 1, 0, none⟩ = some (.int .i64 0) := hR2.cell' rfl
  have u1 : w2.cell? ⟨w.heap.size + 1, 1, none⟩ = some (.int .i64 0) := hR2.cell' rfl
  have u2 : w2.cell? ⟨w.heap.size + 1, 2, none⟩ = some (.int .i64 0) := hR2.cell' rfl
  have z0 := hR2.free 0
  have z1 := hR2.free 1
  have z2 := hR2.free 2
  have HR2 := hide hR2
  clear hm hY2 hR2 y0 y1 y2
  go_wp2_with fail
  go_region
  all_goals go_wp2_with fail
  all_goals (
    refine bodyPost_ret (results_tmp_cell rfl _ _ (w.heap.size + 1) 23 #[.int .i64 (n : Int), .int .i64 (room : Int), .int .i64 (q : Int)] (0, 0) _ rfl ?_ Try.underlying23 rfl (by kernel_rfl)) rfl ?_)
  · exact (((HR2.out.set 0 (.int .i64 (n : Int))).set 1 (.int .i64 (room : Int))).set 2 (.int .i64 (q : Int))).drew
  · refine ⟨n, room, q, d, L, s, H1.out, H2.out, H3.out, rfl, HM.out.widen (HF0.out.trans HF1.out) (Fr.drew (Fr.setIn (Fr.setIn (Fr.setIn (Fr.refl _ _) (.inl ?_) _) (.inl ?_) _) (.inl ?_) _))⟩
    all_goals (have := HSZ.out; have := HF1.out.size; exact ⟨by omega, by omega⟩)
#print axioms made_any
end Qj
end Go.Proofs.Ytanfhmebjgmdpaa
