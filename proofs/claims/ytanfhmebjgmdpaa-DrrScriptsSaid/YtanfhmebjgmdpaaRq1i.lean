/-
  bazaar/ring.Ring[bazaar/drr.job[int]]: place, has, Len, At, New.
-/
import Derived.Test.YtanfhmebjgmdpaaRq00
namespace Go.Proofs.Ytanfhmebjgmdpaa.Qi
open Go.RowKit
set_option linter.unusedVariables false

abbrev X := Int × Int
def enc (x : X) : List Value := [.int .i64 x.1, .int .i64 x.2]
def zeroX : X := (0, 0)
abbrev tRing : TypeId := 135
abbrev tJob : TypeId := 99
theorem enc_len (x : X) : (enc x).length = 2 := rfl
theorem enc_one (x : X) : ∀ v ∈ enc x, v.oneCell' = true := by
  intro v hv
  simp only [enc, List.mem_cons, List.not_mem_nil, or_false] at hv
  first | (rcases hv with rfl | rfl | rfl <;> rfl) | (rcases hv with rfl | rfl <;> rfl)
theorem infoJob : (Try.prog.info? tJob).map (·.size) = some 2 := by kernel_rfl
theorem infoJob3 : (Try.prog.info? tJob).map (fun i => (i.zero, i.size, i.bytes)) = some (some (.agg (enc zeroX).toArray), 2, 16) := by kernel_rfl
abbrev RingAt := QAt (X := X) tRing tJob 2 enc
abbrev RI := QI (X := X) tRing tJob 2 enc
theorem storeJ_ {a : Act} {w : World} {K : Act → World → Prop} {Q : Exit → Act → World → Prop} {dd : Option Tmp} {y x : Operand} {ty : TypeId} {ps : String} {af : Array Edge} {gu : Option (Nat × Bool)} :
    Oper.wp Try.prog { dst := dd, op := .store 99 y x, type := ty, pos := ps, after := af, guard := gu } a w K Q = Oper.upon Try.prog { dst := dd, op := .store 99 y x, type := ty, pos := ps, after := af, guard := gu } a K Q ((storeIn Try.prog 99 (a.eval y) (a.eval x) w).andThen fun _ w => .ok .skip w) := opwp_store _
attribute [local go_sem ↓] storeJ_

set_option maxHeartbeats 400000 in
theorem place_any {p : Nat} {C : Option Addr} {nc cc : Nat} {first : Nat} {r l : Value} (w : World) (i : Nat) (hb : Bl w p tRing #[.slice C nc cc, r, .int .i64 (first : Int), l]) (h1 : 0 < nc) (h2 : first ≤ 70000) (h3 : i ≤ 70000) (h4 : nc ≤ 70000) (k : Nat) (hk : (first + i) % nc = k) :
    Calls Try.prog 64 #[.pointer (some ⟨p, 0, none⟩), .int .i64 (i : Int)] w fun e w' => e = .returned (.int .i64 (k : Int)) ∧ ∃ m, w' = w.drewN m := by
  have c0 : w.cell? ⟨p, 0, none⟩ = some (.slice C nc cc) := hb.cell' rfl
  have c2 : w.cell? ⟨p, 2, none⟩ = some (.int .i64 (first : Int)) := hb.cell' rfl
  have hlt := Nat.mod_lt (first + i) h1
  have q0 : ¬ (nc : Int) = 0 := by omega
  have q1 : ((first : Int) + (i : Int)).tmod (nc : Int) = (((first + i) % nc : Nat) : Int) := by rw [← modc]; rfl
  have q2 : IntKind.i64.wrap ((first : Int) + (i : Int)) = (first : Int) + (i : Int) := IntWalk.i64_in _ (by omega)
  have q3 : IntKind.i64.wrap ((((first + i) % nc : Nat) : Int)) = (((first + i) % nc : Nat) : Int) := IntWalk.i64_in _ (by omega)
  rw [hk] at q1 q3
  clear hk hlt
  go_enter Try.func64, Try.ntmps64
  go_wp2
  go_quiet (fail)
  go_wp2
  go_ret
  exact ⟨rfl, _, rfl⟩
theorem place_fr {p : Nat} {C : Option Addr} {nc cc : Nat} {first : Nat} {r l : Value} (w : World) (i : Nat) (hb : Bl w p tRing #[.slice C nc cc, r, .int .i64 (first : Int), l]) (h1 : 0 < nc) (h2 : first ≤ 70000) (h3 : i ≤ 70000) (h4 : nc ≤ 70000) (k : Nat) (hk : (first + i) % nc = k) :
    Calls Try.prog 64 #[.pointer (some ⟨p, 0, none⟩), .int .i64 (i : Int)] w fun e w' => e = .returned (.int .i64 (k : Int)) ∧ Fr (fun _ => False) w w' :=
  (place_any w i hb h1 h2 h3 h4 k hk).mono fun e w' ⟨he, m, hm⟩ => ⟨he, by rw [hm]; exact (Fr.refl _ _).drewN m⟩
set_option maxHeartbeats 400000 in
theorem has_any {p : Nat} {n : Nat} {a b c : Value} (w : World) (i : Int) (hb : Bl w p tRing #[a, b, c, .int .i64 (n : Int)]) :
    Calls Try.prog 66 #[.pointer (some ⟨p, 0, none⟩), .int .i64 i] w fun e w' => e = .returned (.bool (decide (0 ≤ i ∧ i < n))) ∧ w = w' := by
  have c3 : w.cell? ⟨p, 3, none⟩ = some (.int .i64 (n : Int)) := hb.cell' rfl
  by_cases h0 : 0 ≤ i
  · by_cases h1 : i < n
    · rw [decide_eq_true ⟨h0, h1⟩]
      go_enter Try.func66, Try.ntmps66
      go_wp2
      go_ret
      exact ⟨rfl, rfl⟩
    · rw [decide_eq_false (fun h => h1 h.2)]
      go_enter Try.func66, Try.ntmps66
      go_wp2
      go_ret
      exact ⟨rfl, rfl⟩
  · rw [decide_eq_false (fun h => h0 h.1)]
    go_enter Try.func66, Try.ntmps66
    go_wp2
    go_ret
    exact ⟨rfl, rfl⟩
set_option maxHeartbeats 400000 in
theorem len_any {p : Nat} {n : Nat} {a b c : Value} (w : World) (hb : Bl w p tRing #[a, b, c, .int .i64 (n : Int)]) :
    Calls Try.prog 40 #[.pointer (some ⟨p, 0, none⟩)] w fun e w' => e = .returned (.int .i64 (n : Int)) ∧ w = w' := by
  have c3 : w.cell? ⟨p, 3, none⟩ = some (.int .i64 (n : Int)) := hb.cell' rfl
  go_enter Try.func40, Try.ntmps40
  go_wp2
  go_ret
  exact ⟨rfl, rfl⟩
set_option maxHeartbeats 1000000 in
attribute [-go_sem] Go.Instr.loadAt in
theorem at_in {p : Nat} {C : Option Addr} {cc : Nat} {g : Option Nat} {s : QS X} (w : World) (h : RingAt w p C cc g s) (i : Nat) (x : X) (hx : s.xs[i]? = some x) :
    Calls Try.prog 84 #[.pointer (some ⟨p, 0, none⟩), .int .i64 (i : Int)] w fun e w' => e = .returned (.tuple #[.agg (enc x).toArray, .bool true]) ∧ Fr (fun _ => False) w w' := by
  have hi : i < s.xs.length := (List.getElem?_eq_some_iff.1 hx).1
  obtain ⟨h1, h2, h3, h4⟩ := QS.pos h.ok hi
  have hat := h.ok.at_ i hi
  rw [hx] at hat
  obtain ⟨k, hk⟩ : ∃ k, (s.first + i) % s.vals.length = k := ⟨_, rfl⟩
  have hkl : k < s.vals.length := by rw [← hk]; exact Nat.mod_lt _ h1
  rw [hk] at hat
  obtain ⟨b, o, cur, rfl, -⟩ := h.ow.row enc_len hat rfl
  have hbl := h.bl
  have how := hide h.ow
  have Hat := hide hat
  have Hv : Hid (s.vals.length = s.vals.length) := rfl
  obtain ⟨nc, hnc⟩ : ∃ nc, s.vals.length = nc := ⟨_, rfl⟩
  obtain ⟨nx, hnx⟩ : ∃ nx, s.xs.length = nx := ⟨_, rfl⟩
  obtain ⟨f, hf⟩ : ∃ f, s.first = f := ⟨_, rfl⟩
  rw [hnc] at hkl hbl hk h1 h4 how
  rw [hnx] at hbl hi
  rw [hf] at hbl hk h2
  have Hk := hide hk
  have H1 := hide h1
  have H4 := hide h4
  have Hnc := hide hnc
  have i1 : (0 : Int) ≤ (k : Int) := by omega
  have i2 : (k : Int) < (nc : Int) := by omega
  have i3 : Hid ((0 : Int) ≤ (i : Int) ∧ (i : Int) < (nx : Int)) := ⟨by omega, by omega⟩
  clear hk hx hat hnc hnx h1 h4 hf h
  go_enter Try.func84, Try.ntmps84
  go_wp2_with fail
  have hhas := has_any (w.alloc (.cells (enc zeroX).toArray tJob)) (i : Int) (hbl.alloc _)
  rw [decide_eq_true i3.out] at hhas
  refine hhas.mono ?_
  rintro e w' ⟨rfl, rfl⟩
  clear hhas
  obtain ⟨w1, hw1⟩ : ∃ w1, w.alloc (.cells (enc zeroX).toArray tJob) = w1 := ⟨_, rfl⟩
  have hB1 : Bl w1 w.heap.size tJob (enc zeroX).toArray := by rw [← hw1]; exact Bl.new _ _ _
  have hF1 : Fr (fun _ => False) w w1 := by rw [← hw1]; exact (Fr.refl _ _).alloc _
  have hbl1 := hbl.fr hF1 id
  have how1 := hide (how.out.fr hF1 (fun _ _ => id))
  have c0 : w1.cell? ⟨p, 0, none⟩ = some (.slice (some ⟨b, o, none⟩) nc cc) := hbl1.cell' rfl
  have HB1 := hide hB1
  have HF1 := hide hF1
  try rw [show w.alloc (.cells (enc zeroX).toArray tJob) = w1 from hw1]
  have hwn : w.heap.size < w1.heap.size := hB1.lt
  have hpn : p ≠ w.heap.size := by have := hbl.lt; omega
  have hbn : ∀ b', g = some b' → b' ≠ w.heap.size := fun b' e => by have := how.out.lt b' e; omega
  clear hw1 hF1 hB1
  obtain ⟨B, hB⟩ : ∃ B, w.heap.size = B := ⟨_, rfl⟩
  rw [hB] at hpn hbn HB1 hwn
  simp only [hB]
  have HBe := hide hB
  clear hB
  have hall0 : ∀ w', Fr (fun x => x = B) w1 w' → (Instr.loadAt 133 (.pointer (some ⟨p, 0, none⟩))).run Try.prog w' = .ok (.slice (some ⟨b, o, none⟩) nc cc) w' := fun w' hf =>
    run_loadAt_cell _ _ Try.underlying133 rfl ((hf.cell (World.block_lt_of_cell? w1 _ c0) hpn).trans c0)
  have hall1 : ∀ w', Fr (fun x => x = B) w1 w' → (Instr.loadAt 99 (.pointer (some ⟨b, o + k * 2, none⟩))).run Try.prog w' = .ok (.agg (enc x).toArray) w' := fun w' hf =>
    (how1.out.fr hf hbn).load enc_len Hat.out Hnc.out Try.underlying99 rfl infoJob
  have hF0 : Fr (fun x => x = B) w1 w1 := Fr.refl _ _
  go_wp2_with fail
  go_region_held3 (fun w' => Fr (fun x => x = B) w1 w') (first | assumption | exact Fr.drew (by assumption) | exact Fr.setRow (by assumption) (.inl rfl) _)
    ((go_at_call 64; refine (place_fr _ i (by exact hbl1) H1.out h2 h3 H4.out k Hk.out).mono ?_; rintro e w4 ⟨rfl, hf4⟩; have kf4 : Fr (fun _ => False) w1 w4 := (Fr.drew (by exact Fr.refl _ _)).trans hf4; have kf5 : Fr (fun x => x = B) w1 w4 := kf4.weak _; have ks := (HB1.out.fr kf4 id).storeIn (P := Try.prog) (ty := tJob) x (enc_len x) (enc_one x) rfl infoJob; have ks2 : Fr (fun x => x = B) w1 (w4.setRow B (enc x).toArray) := Fr.setRow kf5 (.inl rfl) _))
  have HB5 := (HB1.out.fr kf4 id).setRow (enc x).toArray
  have hF5 : Fr (fun _ => False) w (w4.setRow B (enc x).toArray) := Fr.setRow (HF1.out.trans kf4) (.inr (Nat.le_of_eq HBe.out)) _
  clear hall0 hall1
  go_wp2_with fail
  try simp only [Exit.inBlock, Exit.then]
  refine bodyPost_ret (results_row_tmp rfl _ _ B tJob (enc x).toArray (0, 0) _ rfl HB5 Try.underlying99 rfl infoJob) rfl ?_
  exact ⟨rfl, hF5⟩
set_option maxHeartbeats 400000 in
set_option maxRecDepth 10000 in
attribute [-go_sem] Go.Instr.loadAt in
theorem at_out {p : Nat} {n : Nat} {a b c : Value} (w : World) (i : Int) (hb : Bl w p tRing #[a, b, c, .int .i64 (n : Int)]) (hi : i < 0 ∨ (n : Int) ≤ i) :
    Calls Try.prog 84 #[.pointer (some ⟨p, 0, none⟩), .int .i64 i] w fun e w' => e = .returned (.tuple #[.agg (enc zeroX).toArray, .bool false]) ∧ Fr (fun _ => False) w w' := by
  obtain ⟨w1, hw1⟩ : ∃ w1, w.alloc (.cells (enc zeroX).toArray tJob) = w1 := ⟨_, rfl⟩
  have hB1 : Bl w1 w.heap.size tJob (enc zeroX).toArray := by rw [← hw1]; exact Bl.new _ _ _
  have HF1 : Hid (Fr (fun _ => False) w w1) := by show Fr _ _ _; rw [← hw1]; exact (Fr.refl _ _).alloc _
  have hhas := has_any (w.alloc (.cells (enc zeroX).toArray tJob)) i (hb.alloc _)
  rw [decide_eq_false (show ¬ (0 ≤ i ∧ i < (n : Int)) by omega)] at hhas
  have hwn : w.heap.size < w1.heap.size := hB1.lt
  obtain ⟨w2, hw2⟩ : ∃ w2, w1.alloc (.cells (enc zeroX).toArray tJob) = w2 := ⟨_, rfl⟩
  have hB2 : Bl w2 w1.heap.size tJob (enc zeroX).toArray := by rw [← hw2]; exact Bl.new _ _ _
  have HF2 : Hid (Fr (fun _ => False) w1 w2) := by show Fr _ _ _; rw [← hw2]; exact (Fr.refl _ _).alloc _
  have HB21 := hide (hB1.fr HF2.out id)
  have hl : (Instr.loadAt 99 (.pointer (some ⟨w1.heap.size, 0, none⟩))).run Try.prog w2 = .ok (.agg (enc zeroX).toArray) w2 := hB2.loadIn (P := Try.prog) (ty := tJob) zeroX (enc_len _) Try.underlying99 rfl infoJob
  have ks := HB21.out.storeIn (P := Try.prog) (ty := tJob) zeroX (enc_len _) (enc_one _) rfl infoJob
  clear hi hB1 hB2
  go_enter Try.func84, Try.ntmps84
  go_wp2_with fail
  refine hhas.mono ?_
  rintro e w' ⟨rfl, rfl⟩
  rw [hw1]
  clear hhas hw1
  have hw3 : w1.alloc (.cells #[.int .i64 0, .int .i64 0] 99) = w2 := hw2
  clear hw2
  go_wp2_with fail
  refine bodyPost_ret (results_row_tmp rfl _ _ w.heap.size tJob (enc zeroX).toArray (0, 0) _ rfl (HB21.out.setRow _) Try.underlying99 rfl infoJob) rfl ?_
  exact ⟨rfl, Fr.setRow (HF1.out.trans HF2.out) (.inr (Nat.le_refl _)) _⟩
set_option maxHeartbeats 400000 in
theorem new_ok (w : World) (room : Nat) (h1 : 1 ≤ room) (h2 : room ≤ 65536) :
    Calls Try.prog 35 #[.int .i64 (room : Int)] w fun e w' => e = .returned (.tuple #[.pointer (some ⟨w.heap.size, 0, none⟩), .int .i64 0]) ∧ RI w' w.heap.size none room [] ∧ Fr (fun _ => False) w w' ∧ w.heap.size < w'.heap.size := by
  go_enter Try.func35, Try.ntmps35
  go_wp2
  go_ret2
  exact ⟨rfl, ⟨none, 0, ⟨room, 0, [], []⟩, rfl, rfl, ⟨Bl.new _ _ _, Ow.nil_ _ _ _, ⟨h1, h2, Nat.le_refl _, Nat.zero_le _, .inl rfl, fun i h => by simp at h⟩⟩⟩, (Fr.refl _ _).alloc _, by simp⟩
theorem lenR_any {p : Nat} {g : Option Nat} {room : Nat} {xs : List X} (w : World) (h : RI w p g room xs) :
    Calls Try.prog 40 #[.pointer (some ⟨p, 0, none⟩)] w fun e w' => e = .returned (.int .i64 (xs.length : Int)) ∧ w = w' := by
  obtain ⟨C, cc, s, rfl, rfl, h⟩ := h
  exact len_any w h.bl
theorem atR_in {p : Nat} {g : Option Nat} {room : Nat} {xs : List X} (w : World) (h : RI w p g room xs) (i : Nat) (x : X) (hx : xs[i]? = some x) :
    Calls Try.prog 84 #[.pointer (some ⟨p, 0, none⟩), .int .i64 (i : Int)] w fun e w' => e = .returned (.tuple #[.agg (enc x).toArray, .bool true]) ∧ Fr (fun _ => False) w w' := by
  obtain ⟨C, cc, s, rfl, rfl, h⟩ := h
  exact at_in w h i x hx
theorem atR_out {p : Nat} {g : Option Nat} {room : Nat} {xs : List X} (w : World) (h : RI w p g room xs) (i : Int) (hi : i < 0 ∨ (xs.length : Int) ≤ i) :
    Calls Try.prog 84 #[.pointer (some ⟨p, 0, none⟩), .int .i64 i] w fun e w' => e = .returned (.tuple #[.agg (enc zeroX).toArray, .bool false]) ∧ Fr (fun _ => False) w w' := by
  obtain ⟨C, cc, s, rfl, rfl, h⟩ := h
  exact at_out w i h.bl hi
end Go.Proofs.Ytanfhmebjgmdpaa.Qi
