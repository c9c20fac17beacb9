/-
  stands: what stands in a place.
-/
import Derived.Test.YtchajbiloaiekaaSl6
namespace Go.Proofs.Ytchajbiloaiekaa
open Go.RowKit
set_option linter.unusedVariables false
abbrev tU8 : TypeId := 5
/-- A sector's bytes in a new block. -/
theorem boxedS (w : World) (L : List Value) {s0 : Nat} (hs : w.heap.size = s0) : Bl (w.alloc (.cells #[.int .u8 0, .int .u8 0, .int .u8 0, .int .u8 0, .int .u8 0, .int .u8 0, .int .u8 0, .int .u8 0, .int .u8 0, .int .u8 0, .int .u8 0, .int .u8 0, .int .u8 0, .int .u8 0, .int .u8 0, .int .u8 0, .int .u8 0, .int .u8 0, .int .u8 0, .int .u8 0, .int .u8 0, .int .u8 0, .int .u8 0, .int .u8 0, .int .u8 0, .int .u8 0, .int .u8 0, .int .u8 0, .int .u8 0, .int .u8 0, .int .u8 0, .int .u8 0, .int .u8 0, .int .u8 0, .int .u8 0, .int .u8 0, .int .u8 0, .int .u8 0, .int .u8 0, .int .u8 0, .int .u8 0, .int .u8 0, .int .u8 0, .int .u8 0, .int .u8 0, .int .u8 0, .int .u8 0, .int .u8 0, .int .u8 0, .int .u8 0, .int .u8 0, .int .u8 0, .int .u8 0, .int .u8 0, .int .u8 0, .int .u8 0, .int .u8 0, .int .u8 0, .int .u8 0, .int .u8 0, .int .u8 0, .int .u8 0, .int .u8 0, .int .u8 0] 61)) s0 tSk #[.int .u8 0, .int .u8 0, .int .u8 0, .int .u8 0, .int .u8 0, .int .u8 0, .int .u8 0, .int .u8 0, .int .u8 0, .int .u8 0, .int .u8 0, .int .u8 0, .int .u8 0, .int .u8 0, .int .u8 0, .int .u8 0, .int .u8 0, .int .u8 0, .int .u8 0, .int .u8 0, .int .u8 0, .int .u8 0, .int .u8 0, .int .u8 0, .int .u8 0, .int .u8 0, .int .u8 0, .int .u8 0, .int .u8 0, .int .u8 0, .int .u8 0, .int .u8 0, .int .u8 0, .int .u8 0, .int .u8 0, .int .u8 0, .int .u8 0, .int .u8 0, .int .u8 0, .int .u8 0, .int .u8 0, .int .u8 0, .int .u8 0, .int .u8 0, .int .u8 0, .int .u8 0, .int .u8 0, .int .u8 0, .int .u8 0, .int .u8 0, .int .u8 0, .int .u8 0, .int .u8 0, .int .u8 0, .int .u8 0, .int .u8 0, .int .u8 0, .int .u8 0, .int .u8 0, .int .u8 0, .int .u8 0, .int .u8 0, .int .u8 0, .int .u8 0] ∧ Bl ((w.alloc (.cells #[.int .u8 0, .int .u8 0, .int .u8 0, .int .u8 0, .int .u8 0, .int .u8 0, .int .u8 0, .int .u8 0, .int .u8 0, .int .u8 0, .int .u8 0, .int .u8 0, .int .u8 0, .int .u8 0, .int .u8 0, .int .u8 0, .int .u8 0, .int .u8 0, .int .u8 0, .int .u8 0, .int .u8 0, .int .u8 0, .int .u8 0, .int .u8 0, .int .u8 0, .int .u8 0, .int .u8 0, .int .u8 0, .int .u8 0, .int .u8 0, .int .u8 0, .int .u8 0, .int .u8 0, .int .u8 0, .int .u8 0, .int .u8 0, .int .u8 0, .int .u8 0, .int .u8 0, .int .u8 0, .int .u8 0, .int .u8 0, .int .u8 0, .int .u8 0, .int .u8 0, .int .u8 0, .int .u8 0, .int .u8 0, .int .u8 0, .int .u8 0, .int .u8 0, .int .u8 0, .int .u8 0, .int .u8 0, .int .u8 0, .int .u8 0, .int .u8 0, .int .u8 0, .int .u8 0, .int .u8 0, .int .u8 0, .int .u8 0, .int .u8 0, .int .u8 0] 61)).setRow s0 L.toArray) s0 tSk L.toArray ∧ Fr (fun _ => False) w ((w.alloc (.cells #[.int .u8 0, .int .u8 0, .int .u8 0, .int .u8 0, .int .u8 0, .int .u8 0, .int .u8 0, .int .u8 0, .int .u8 0, .int .u8 0, .int .u8 0, .int .u8 0, .int .u8 0, .int .u8 0, .int .u8 0, .int .u8 0, .int .u8 0, .int .u8 0, .int .u8 0, .int .u8 0, .int .u8 0, .int .u8 0, .int .u8 0, .int .u8 0, .int .u8 0, .int .u8 0, .int .u8 0, .int .u8 0, .int .u8 0, .int .u8 0, .int .u8 0, .int .u8 0, .int .u8 0, .int .u8 0, .int .u8 0, .int .u8 0, .int .u8 0, .int .u8 0, .int .u8 0, .int .u8 0, .int .u8 0, .int .u8 0, .int .u8 0, .int .u8 0, .int .u8 0, .int .u8 0, .int .u8 0, .int .u8 0, .int .u8 0, .int .u8 0, .int .u8 0, .int .u8 0, .int .u8 0, .int .u8 0, .int .u8 0, .int .u8 0, .int .u8 0, .int .u8 0, .int .u8 0, .int .u8 0, .int .u8 0, .int .u8 0, .int .u8 0, .int .u8 0] 61)).setRow s0 L.toArray) := by
  have hB : Bl (w.alloc (.cells #[.int .u8 0, .int .u8 0, .int .u8 0, .int .u8 0, .int .u8 0, .int .u8 0, .int .u8 0, .int .u8 0, .int .u8 0, .int .u8 0, .int .u8 0, .int .u8 0, .int .u8 0, .int .u8 0, .int .u8 0, .int .u8 0, .int .u8 0, .int .u8 0, .int .u8 0, .int .u8 0, .int .u8 0, .int .u8 0, .int .u8 0, .int .u8 0, .int .u8 0, .int .u8 0, .int .u8 0, .int .u8 0, .int .u8 0, .int .u8 0, .int .u8 0, .int .u8 0, .int .u8 0, .int .u8 0, .int .u8 0, .int .u8 0, .int .u8 0, .int .u8 0, .int .u8 0, .int .u8 0, .int .u8 0, .int .u8 0, .int .u8 0, .int .u8 0, .int .u8 0, .int .u8 0, .int .u8 0, .int .u8 0, .int .u8 0, .int .u8 0, .int .u8 0, .int .u8 0, .int .u8 0, .int .u8 0, .int .u8 0, .int .u8 0, .int .u8 0, .int .u8 0, .int .u8 0, .int .u8 0, .int .u8 0, .int .u8 0, .int .u8 0, .int .u8 0] 61)) s0 tSk #[.int .u8 0, .int .u8 0, .int .u8 0, .int .u8 0, .int .u8 0, .int .u8 0, .int .u8 0, .int .u8 0, .int .u8 0, .int .u8 0, .int .u8 0, .int .u8 0, .int .u8 0, .int .u8 0, .int .u8 0, .int .u8 0, .int .u8 0, .int .u8 0, .int .u8 0, .int .u8 0, .int .u8 0, .int .u8 0, .int .u8 0, .int .u8 0, .int .u8 0, .int .u8 0, .int .u8 0, .int .u8 0, .int .u8 0, .int .u8 0, .int .u8 0, .int .u8 0, .int .u8 0, .int .u8 0, .int .u8 0, .int .u8 0, .int .u8 0, .int .u8 0, .int .u8 0, .int .u8 0, .int .u8 0, .int .u8 0, .int .u8 0, .int .u8 0, .int .u8 0, .int .u8 0, .int .u8 0, .int .u8 0, .int .u8 0, .int .u8 0, .int .u8 0, .int .u8 0, .int .u8 0, .int .u8 0, .int .u8 0, .int .u8 0, .int .u8 0, .int .u8 0, .int .u8 0, .int .u8 0, .int .u8 0, .int .u8 0, .int .u8 0, .int .u8 0] := Bl.newAt hs.symm
  exact ⟨hB, hB.setRow _, ((Fr.refl _ _).alloc _).setRow (.inr (by rw [hs]; exact Nat.le_refl _)) _⟩
theorem zeroU8 (w : World) : (zeroValue 5).run Try.prog w = .ok (Value.int .u8 0) w := by kernel_rfl
theorem clearS {w : World} {b : Nat} {L : List Value} (hB : Bl w b tSk L.toArray) (hL : L.length = 64) (m : Nat) (hm : 0 < m) (hm2 : m ≤ 64) (ty : TypeId) :
    (Builtin.clear_ #[22] ty #[.slice (some ⟨b, 0, none⟩) m 64]).run Try.prog w = .ok (.tuple #[]) (w.setCells b 0 (List.replicate m (Value.int .u8 0))) ∧
    Bl (w.setCells b 0 (List.replicate m (Value.int .u8 0))) b tSk (List.replicate m (Value.int .u8 0) ++ L.drop m).toArray ∧ Fr (fun x => x = b) w (w.setCells b 0 (List.replicate m (Value.int .u8 0))) := by
  refine ⟨Go.Lib.run_clear_slice w 22 5 ty (.int .u8 0) Try.underlying22 zeroU8 rfl rfl b 0 m 64 hm (fun j hj => ?_) (fun j hj => hB.free _), ?_, fr_setCells b _ 0 w⟩
  · rw [hB.cell (0 + j), Nat.zero_add]
    simp; omega
  · have := bl_setCells (cs := List.replicate m (Value.int .u8 0)) hB (by simp; omega)
    simpa using this
theorem padN_false {T : Nat → List Nat} {b l : Nat} : ∀ (d j : Nat), padN T b l j = false → padN T b l (j + d) = false
  | 0, _, h => h
  | d + 1, j, h => by rw [show j + (d + 1) = (j + d) + 1 by omega, padN, padN_false d j h]; rfl
theorem pad_iff (Ts : List Nat) (mm : Nat) (h : mm ≤ 64) : zeros mm ++ Ts.drop mm = zeros 64 ↔ Ts.drop mm = zeros (64 - mm) := by
  rw [show zeros 64 = zeros mm ++ zeros (64 - mm) by rw [← zeros_add]; congr 1; omega]
  exact ⟨fun e => List.append_cancel_left e, fun e => by rw [e]⟩
theorem zSize : (#[.int .u8 0, .int .u8 0, .int .u8 0, .int .u8 0, .int .u8 0, .int .u8 0, .int .u8 0, .int .u8 0, .int .u8 0, .int .u8 0, .int .u8 0, .int .u8 0, .int .u8 0, .int .u8 0, .int .u8 0, .int .u8 0, .int .u8 0, .int .u8 0, .int .u8 0, .int .u8 0, .int .u8 0, .int .u8 0, .int .u8 0, .int .u8 0, .int .u8 0, .int .u8 0, .int .u8 0, .int .u8 0, .int .u8 0, .int .u8 0, .int .u8 0, .int .u8 0, .int .u8 0, .int .u8 0, .int .u8 0, .int .u8 0, .int .u8 0, .int .u8 0, .int .u8 0, .int .u8 0, .int .u8 0, .int .u8 0, .int .u8 0, .int .u8 0, .int .u8 0, .int .u8 0, .int .u8 0, .int .u8 0, .int .u8 0, .int .u8 0, .int .u8 0, .int .u8 0, .int .u8 0, .int .u8 0, .int .u8 0, .int .u8 0, .int .u8 0, .int .u8 0, .int .u8 0, .int .u8 0, .int .u8 0, .int .u8 0, .int .u8 0, .int .u8 0] : Array Value).size = 64 := by kernel_rfl
/-- What stands answers: the picture in new memory, its turn. -/
def StandsOut (w : World) (r : List Nat × Nat) (e : Ending) (w' : World) : Prop :=
  ∃ A c g, e = .returned (.tuple #[.slice A r.1.length c, .int .i64 (r.2 : Int)]) ∧ Ow w' tU8 1 A r.1.length c (r.1.map bn) g ∧ (∀ b, g = some b → w.heap.size ≤ b) ∧ Fr (fun _ => False) w w'
section
variable {w : World} {q p fr n t0 t1 N : Nat} {F : Nat → Prop} {s : DS}
theorem StandsOut.none_ {w w' : World} (h : Fr (fun _ => False) w w') : StandsOut w ([], 0) (.returned (.tuple #[.slice none 0 0, .int .i64 0])) w' := ⟨none, 0, none, rfl, Ow.nil_ _ _ _, (fun b h => by cases h), h⟩
set_option maxHeartbeats 4000000 in
set_option maxRecDepth 4000 in
theorem stands_any (h : SAt w q p fr n t0 t1) (hd : DI w p N F s) (hf : s.fuse = -1) (k : Nat) (hk : k ≤ 1) (hn : 2 ≤ n) (hb : fr + 2 * n ≤ N) (hlt : ∀ i, i < N → ∀ x ∈ s.told i, x < 256) :
    Calls Try.prog 26 #[.pointer (some ⟨q, 0, none⟩), .int .i64 (k : Int)] w (StandsOut w (standsN s.told fr n k)) := by
  obtain ⟨R, hR0⟩ : ∃ R, standsN s.told fr n k = R := ⟨_, rfl⟩
  rw [hR0]
  have HR := hide hR0
  clear hR0
  obtain ⟨i0, hi, hz0, hz1, hz2⟩ := info_parts infoU8
  have hN : N ≤ 65536 := hd.ok.n2
  have hkn : k * n ≤ n := by have := Nat.mul_le_mul_right n hk; omega
  obtain ⟨fb, hfb⟩ : ∃ fb, fr + k * n = fb := ⟨_, rfl⟩
  have hfbN : fb + n ≤ N := by omega
  have hH : Hid (∀ W, Fr (fun _ => False) w W → SAt W q p fr n t0 t1 ∧ DI W p N F s) := fun W hW => ⟨h.fr hW id, hd.fr hW (fun _ _ => id)⟩
  have hfirst := first_any h (by omega) (by omega) k hk
  rw [hfb] at hfirst
  clear h hd
  go_enter Try.func26, Try.ntmps26
  go_wp2_with fail
  refine hfirst.mono ?_
  rintro e w1 ⟨rfl, hf1⟩
  have hr1 := sread_any (hH.out w1 hf1).1 (hH.out w1 hf1).2 hf fb (by omega)
  clear hfirst
  go_wp2_with fail
  refine hr1.mono ?_
  rintro e w2 ⟨rfl, hf2⟩
  obtain ⟨sb, hsb⟩ : ∃ sb, w2.heap.size = sb := ⟨_, rfl⟩
  obtain ⟨h, hh⟩ : ∃ h, s.told fb = h := ⟨_, rfl⟩
  have hhl : h.length = 64 := by rw [← hh]; exact told_len (hH.out w (Fr.refl _ _)).2.ok (by omega)
  have hhx : ∀ x ∈ h, x < 256 := by rw [← hh]; exact hlt fb (by omega)
  obtain ⟨hZ2, hB3, hF3⟩ := boxedS w2 (h.map bn) hsb
  obtain ⟨hN, hhN⟩ : ∃ hN, h.map bn = hN := ⟨_, rfl⟩
  have Hl : Hid (hN.length = 64) := by show _ = 64; rw [← hhN, List.length_map, hhl]
  have Ho : Hid (hN.all (·.oneCell') = true) := by show _ = true; rw [← hhN]; simp [bn, Value.oneCell']
  have Hi : Hid ((Try.prog.info? tSk).map (·.size) = some hN.toArray.size) := by show _ = _; rw [List.size_toArray, Hl.out]; kernel_rfl
  rw [hhN] at hB3 hF3
  have HB3 := hide hB3
  have HF3 := hide ((hf1.trans hf2).trans hF3)
  have Hh := hide (And.intro hh (And.intro hhl (And.intro hhx hhN)))
  rw [hh, hhN]
  clear hr1 hf1 hf2 hF3 hB3 hh hhl hhx hhN
  go_wp2_with (refine wpList_store_at rfl tSk _ _ rfl sb 0 hN.toArray rfl rfl tSk _ hN.toArray hZ2 Hi.out 64 64 zSize (by simpa using Hl.out) (by decide) Ho.out (by simp [Hl.out]) ?_)
  clear hZ2 hsb
  generalize hw3 : (w2.alloc (.cells #[.int .u8 0, .int .u8 0, .int .u8 0, .int .u8 0, .int .u8 0, .int .u8 0, .int .u8 0, .int .u8 0, .int .u8 0, .int .u8 0, .int .u8 0, .int .u8 0, .int .u8 0, .int .u8 0, .int .u8 0, .int .u8 0, .int .u8 0, .int .u8 0, .int .u8 0, .int .u8 0, .int .u8 0, .int .u8 0, .int .u8 0, .int .u8 0, .int .u8 0, .int .u8 0, .int .u8 0, .int .u8 0, .int .u8 0, .int .u8 0, .int .u8 0, .int .u8 0, .int .u8 0, .int .u8 0, .int .u8 0, .int .u8 0, .int .u8 0, .int .u8 0, .int .u8 0, .int .u8 0, .int .u8 0, .int .u8 0, .int .u8 0, .int .u8 0, .int .u8 0, .int .u8 0, .int .u8 0, .int .u8 0, .int .u8 0, .int .u8 0, .int .u8 0, .int .u8 0, .int .u8 0, .int .u8 0, .int .u8 0, .int .u8 0, .int .u8 0, .int .u8 0, .int .u8 0, .int .u8 0, .int .u8 0, .int .u8 0, .int .u8 0, .int .u8 0] 61)).setRow sb hN.toArray = w3 at HB3 HF3 ⊢
  clear hw3
  obtain ⟨hh, hhl, hhx, hhN⟩ := Hh.out
  have hS : Hid (∀ W, Bl W sb tSk hN.toArray → ∀ o m, o + m ≤ 64 → Sl W 1 (some ⟨sb, o, none⟩) m (((h.drop o).take m).map bn)) := fun W hW o m hom => ⟨by simp [hhl]; omega, fun _ => ⟨sb, o, rfl, fun j u hu => by
    have hj : j < m := by have := (List.getElem?_eq_some_iff.1 hu).1; rw [List.length_map, List.length_take] at this; omega
    refine hW.cell' ?_
    rw [List.getElem?_toArray, ← hhN]
    rw [List.map_take, List.map_drop, List.getElem?_take_of_lt hj, List.getElem?_drop] at hu
    exact hu⟩⟩
  have hmem : ∀ o m, ∀ x ∈ (h.drop o).take m, x < 256 := fun o m x hx => hhx x (List.mem_of_mem_drop (List.mem_of_mem_take hx))
  have hn1 : ∀ W, Fr (fun _ => False) w3 W → Calls Try.prog 35 #[.slice (some ⟨sb, 1, none⟩) 8 63] W fun e w' => e = .returned (.int .u64 (turnN h : Int)) ∧ W = w' := fun W hW => number_any W (some ⟨sb, 1, none⟩) 8 63 ((h.drop 1).take 8) (hmem 1 8) (by simp [hhl]) (by omega) (hS.out _ (HB3.out.fr hW id) 1 8 (by omega))
  have hn2 : ∀ W, Fr (fun _ => False) w3 W → Calls Try.prog 35 #[.slice (some ⟨sb, 9, none⟩) 4 55] W fun e w' => e = .returned (.int .u64 (longN h : Int)) ∧ W = w' := fun W hW => number_any W (some ⟨sb, 9, none⟩) 4 55 ((h.drop 9).take 4) (hmem 9 4) (by simp [hhl]) (by omega) (hS.out _ (HB3.out.fr hW id) 9 4 (by omega))
  have hlb : longN h < 4294967296 := by have := beG_lt0 (hmem 9 4); rw [List.length_take, List.length_drop, hhl] at this; exact this
  have htb : turnN h < 18446744073709551616 := by have := beG_lt0 (hmem 1 8); rw [List.length_take, List.length_drop, hhl] at this; exact this
  have hR := HR.out
  unfold standsN at hR
  simp only [hfb, hh] at hR
  obtain ⟨tn, htn⟩ : ∃ tn, turnN h = tn := ⟨_, rfl⟩
  obtain ⟨lg, hlg⟩ : ∃ lg, longN h = lg := ⟨_, rfl⟩
  rw [htn, hlg] at hR
  rw [htn] at htb hn1
  rw [hlg] at hlb hn2
  have iw : IntKind.i64.wrap (lg : Int) = (lg : Int) := IntWalk.i64_in _ (by omega)
  have HRR := hide hR
  have Htl := hide (And.intro htn hlg)
  have Hbd := hide (And.intro htb hlb)
  clear hh hhl hhx hhN hmem hR HR htn hlg htb hlb
  go_wp2_with fail
  have Hn1 := hide hn1
  have Hn2 := hide hn2
  have hS0 : Fr (fun _ => False) w3 w3 := Fr.refl _ _
  clear hn1 hn2
  go_region_held3 (fun w' => Fr (fun _ => False) w3 w') (first | assumption | exact Fr.drew (by assumption))
    (first
      | (go_at_call 35; ((with_reducible refine (Hn1.out _ (by first | assumption | exact Fr.drew (by assumption))).mono ?_); rintro e w4 ⟨rfl, rfl⟩))
      | (go_at_call 35; ((with_reducible refine (Hn2.out _ (by first | assumption | exact Fr.drew (by assumption))).mono ?_); rintro e w4 ⟨rfl, rfl⟩)))
  have hf4 : Fr (fun _ => False) w3 w3.drew := (Fr.refl _ _).drew
  have HB4 := hide (HB3.out.fr hf4 id)
  have HF4 := hide (HF3.out.trans hf4)
  clear hS0 Hn1 Hn2 HB3 HF3 hf4
  generalize w3.drew = w4 at HB4 HF4 ⊢
  have it : IntKind.i64.wrap (tn : Int) = (tn : Int) ∨ 1099511627776 < tn := by
    by_cases h : 1099511627776 < tn
    · exact .inr h
    · exact .inl (IntWalk.i64_in _ (by omega))
  by_cases c1 : tn < 1
  · have hR0 : R = ([], 0) := by rw [← HRR.out, if_pos (.inl c1)]
    subst hR0
    have i1 : (tn : Int) < 1 := by omega
    clear it
    go_wp2_with fail
    go_ret2
    exact StandsOut.none_ HF4.out
  by_cases c2 : 1099511627776 < tn
  · have hR0 : R = ([], 0) := by rw [← HRR.out, if_pos (.inr (.inl c2))]
    subst hR0
    have i1 : ¬ (tn : Int) < 1 := by omega
    have i2 : (1099511627776 : Int) < (tn : Int) := by omega
    clear it
    go_wp2_with fail
    go_ret2
    exact StandsOut.none_ HF4.out
  have it := it.resolve_right c2
  obtain ⟨r, hr⟩ : ∃ r, tn % 2 = r := ⟨_, rfl⟩
  have im : (tn : Int).tmod 2 = (r : Int) := by rw [Int.tmod_eq_emod_of_nonneg (by omega)]; omega
  have i1 : ¬ (tn : Int) < 1 := by omega
  have i2 : ¬ (1099511627776 : Int) < (tn : Int) := by omega
  by_cases c3 : r ≠ k
  · have hR0 : R = ([], 0) := by rw [← HRR.out, if_pos (.inr (.inr (.inl (by rw [hr]; exact c3))))]
    subst hR0
    have i3 : ((r : Int) == (k : Int)) = false := by simp; omega
    have i3' : ¬ (r : Int) = (k : Int) := by omega
    clear hr
    go_wp2_with fail
    go_ret2
    exact StandsOut.none_ HF4.out
  obtain rfl : r = k := by omega
  have hm4 := most_any (hH.out w4 HF4.out).1 (by omega)
  obtain ⟨ms, hms⟩ : ∃ ms, 64 * (n - 1) = ms := ⟨_, rfl⟩
  rw [hms] at hm4
  by_cases c4 : ms < lg
  · have hR0 : R = ([], 0) := by rw [← HRR.out, if_pos (.inr (.inr (.inr (by rw [hms]; exact c4))))]
    subst hR0
    have i4 : (ms : Int) < (lg : Int) := by omega
    clear hr
    go_wp2_with fail
    refine hm4.mono ?_
    rintro e w5 ⟨rfl, hf5⟩
    clear hm4
    go_wp2_with fail
    go_ret2
    exact StandsOut.none_ (HF4.out.trans hf5)
  have i4 : ¬ (ms : Int) < (lg : Int) := by omega
  have hR2 : (if padN s.told (fb + 1) lg ((lg + 63) / 64) = false then (([] : List Nat), 0) else if headN tn (picN s.told (fb + 1) lg ((lg + 63) / 64)) ≠ h then ([], 0) else (picN s.told (fb + 1) lg ((lg + 63) / 64), tn)) = R := (if_neg (by omega)).symm.trans HRR.out
  have HR2 := hide hR2
  have Hr := hide hr
  clear hR2 HRR hr
  go_wp2_with fail
  refine hm4.mono ?_
  rintro e w5 ⟨rfl, hf5⟩
  clear hm4
  have HB5 := hide (HB4.out.fr hf5 id)
  have HF5 := hide (HF4.out.trans hf5)
  have hfirst := first_any (hH.out w5 HF5.out).1 (by omega) (by omega) r hk
  rw [hfb] at hfirst
  clear HB4 HF4 hf5 c1 c2 c3 c4
  go_wp2_with fail
  refine hfirst.mono ?_
  rintro e w6 ⟨rfl, hf6⟩
  have HB6 := hide (HB5.out.fr hf6 id)
  have HF6 := hide (HF5.out.trans hf6)
  clear HB5 HF5 hf6 hfirst
  have ib : IntKind.i64.wrap ((fb : Int) + 1) = ((fb + 1 : Nat) : Int) := by rw [show (fb : Int) + 1 = ((fb + 1 : Nat) : Int) by omega]; exact IntWalk.i64_in _ (by omega)
  obtain ⟨b1, hb1⟩ : ∃ b1, fb + 1 = b1 := ⟨_, rfl⟩
  rw [hb1] at ib HR2
  go_wp2_with fail
  have hs0 : w.heap.size ≤ w6.heap.size := HF6.out.size
  have HL0 : Hid (picN s.told b1 lg 0 = []) := rfl
  go_loopw [9, 10] (fun v9 v10 wr => ∃ (j m z : Nat) (A : Option Addr) (c : Nat) (g : Option Nat), v9 = .slice A m c ∧ v10 = .int .i64 (z : Int) ∧ m = min (64 * j) lg ∧ z = b1 + j ∧ 64 * j < lg + 64 ∧ Ow wr tU8 1 A m c ((picN s.told b1 lg j).map bn) g ∧ (∀ b, g = some b → w.heap.size ≤ b) ∧ padN s.told b1 lg j = true ∧ Fr (fun _ => False) w wr ∧ Bl wr sb tSk hN.toArray) (fun _ i _ => b1 + lg + 64 - (intOf i).toNat)
  case atStart => exact ⟨0, 0, b1, none, 0, none, rfl, rfl, by omega, rfl, by omega, Ow.nil_ _ _ _, (fun b h => by cases h), rfl, HF6.out, HB6.out⟩
  case round =>
    obtain ⟨j, m, z, A, c, g, rfl, rfl, hm, hz, hj, hO, hg, hpd, hF, hB⟩ := hrel
    clear HB6 HF6
    by_cases hlg : m < lg
    · have hj2 : 64 * j < lg := by omega
      obtain ⟨d, hd⟩ : ∃ d, lg - m = d := ⟨_, rfl⟩
      have isub : IntKind.i64.wrap ((lg : Int) - (m : Int)) = (d : Int) := by rw [show (lg : Int) - (m : Int) = (d : Int) by omega]; exact IntWalk.i64_in _ (by omega)
      have hrd := sread_any (hH.out wr hF).1 (hH.out wr hF).2 hf z (by omega)
      have hTl := told_len (hH.out wr hF).2.ok (show z < N by omega)
      obtain ⟨Ts, hTs⟩ : ∃ Ts, s.told z = Ts := ⟨_, rfl⟩
      rw [hTs] at hrd hTl
      have Hj := hide (And.intro hm (And.intro hz (And.intro hj (And.intro hpd (And.intro hd (And.intro hTs (And.intro hTl (And.intro hj2 (And.intro hO (And.intro hg (And.intro hF hB)))))))))))
      have i5 : (m : Int) < (lg : Int) := by omega
      clear hm hz hj hpd hd hTs hTl hj2 hO hg hF hB hlg
      go_wp2_with fail
      refine hrd.mono ?_
      rintro e w7 ⟨rfl, hf7⟩
      obtain ⟨s2, hs2⟩ : ∃ s2, w7.heap.size = s2 := ⟨_, rfl⟩
      obtain ⟨TN, hTN⟩ : ∃ TN, Ts.map bn = TN := ⟨_, rfl⟩
      rw [hTN]
      obtain ⟨hm, hz, hj, hpd, hd, hTs, hTl, hj2, hO, hg, hF, hB⟩ := Hj.out
      have Tl : Hid (TN.length = 64) := by show _ = 64; rw [← hTN, List.length_map, hTl]
      have To : Hid (TN.all (·.oneCell') = true) := by show _ = true; rw [← hTN]; simp [bn, Value.oneCell']
      have Ti : Hid ((Try.prog.info? tSk).map (·.size) = some TN.toArray.size) := by show _ = _; rw [List.size_toArray, Tl.out]; kernel_rfl
      obtain ⟨hZ7, hB7, hF7⟩ := boxedS w7 TN hs2
      have hF8 : Fr (fun _ => False) wr ((w7.alloc (.cells #[.int .u8 0, .int .u8 0, .int .u8 0, .int .u8 0, .int .u8 0, .int .u8 0, .int .u8 0, .int .u8 0, .int .u8 0, .int .u8 0, .int .u8 0, .int .u8 0, .int .u8 0, .int .u8 0, .int .u8 0, .int .u8 0, .int .u8 0, .int .u8 0, .int .u8 0, .int .u8 0, .int .u8 0, .int .u8 0, .int .u8 0, .int .u8 0, .int .u8 0, .int .u8 0, .int .u8 0, .int .u8 0, .int .u8 0, .int .u8 0, .int .u8 0, .int .u8 0, .int .u8 0, .int .u8 0, .int .u8 0, .int .u8 0, .int .u8 0, .int .u8 0, .int .u8 0, .int .u8 0, .int .u8 0, .int .u8 0, .int .u8 0, .int .u8 0, .int .u8 0, .int .u8 0, .int .u8 0, .int .u8 0, .int .u8 0, .int .u8 0, .int .u8 0, .int .u8 0, .int .u8 0, .int .u8 0, .int .u8 0, .int .u8 0, .int .u8 0, .int .u8 0, .int .u8 0, .int .u8 0, .int .u8 0, .int .u8 0, .int .u8 0, .int .u8 0] 61)).setRow s2 TN.toArray) := hf7.trans hF7
      have hO8 := hide (hO.fr hF8 (fun _ _ => id))
      obtain ⟨mm, hmm⟩ : ∃ mm, partN lg j = mm := ⟨_, rfl⟩
      have hS8 : Hid (Sl ((w7.alloc (.cells #[.int .u8 0, .int .u8 0, .int .u8 0, .int .u8 0, .int .u8 0, .int .u8 0, .int .u8 0, .int .u8 0, .int .u8 0, .int .u8 0, .int .u8 0, .int .u8 0, .int .u8 0, .int .u8 0, .int .u8 0, .int .u8 0, .int .u8 0, .int .u8 0, .int .u8 0, .int .u8 0, .int .u8 0, .int .u8 0, .int .u8 0, .int .u8 0, .int .u8 0, .int .u8 0, .int .u8 0, .int .u8 0, .int .u8 0, .int .u8 0, .int .u8 0, .int .u8 0, .int .u8 0, .int .u8 0, .int .u8 0, .int .u8 0, .int .u8 0, .int .u8 0, .int .u8 0, .int .u8 0, .int .u8 0, .int .u8 0, .int .u8 0, .int .u8 0, .int .u8 0, .int .u8 0, .int .u8 0, .int .u8 0, .int .u8 0, .int .u8 0, .int .u8 0, .int .u8 0, .int .u8 0, .int .u8 0, .int .u8 0, .int .u8 0, .int .u8 0, .int .u8 0, .int .u8 0, .int .u8 0, .int .u8 0, .int .u8 0, .int .u8 0, .int .u8 0] 61)).setRow s2 TN.toArray) 1 (some ⟨s2, 0, none⟩) mm ((Ts.take mm).map bn)) := by
        have hmm2 : mm ≤ 64 := by rw [← hmm]; unfold partN; omega
        refine ⟨by simp [hTl]; omega, fun _ => ⟨s2, 0, rfl, fun j u hu => ?_⟩⟩
        have hj : j < mm := by have := (List.getElem?_eq_some_iff.1 hu).1; rw [List.length_map, List.length_take] at this; omega
        rw [Nat.zero_add]
        refine hB7.cell' ?_
        rw [List.getElem?_toArray, ← hTN]
        rw [List.map_take, List.getElem?_take_of_lt hj] at hu
        exact hu
      have HszW : Hid (wr.heap.size ≤ s2) := by show _ ≤ _; rw [← hs2]; exact hf7.size
      have hs8 : Hid (s2 < ((w7.alloc (.cells #[.int .u8 0, .int .u8 0, .int .u8 0, .int .u8 0, .int .u8 0, .int .u8 0, .int .u8 0, .int .u8 0, .int .u8 0, .int .u8 0, .int .u8 0, .int .u8 0, .int .u8 0, .int .u8 0, .int .u8 0, .int .u8 0, .int .u8 0, .int .u8 0, .int .u8 0, .int .u8 0, .int .u8 0, .int .u8 0, .int .u8 0, .int .u8 0, .int .u8 0, .int .u8 0, .int .u8 0, .int .u8 0, .int .u8 0, .int .u8 0, .int .u8 0, .int .u8 0, .int .u8 0, .int .u8 0, .int .u8 0, .int .u8 0, .int .u8 0, .int .u8 0, .int .u8 0, .int .u8 0, .int .u8 0, .int .u8 0, .int .u8 0, .int .u8 0, .int .u8 0, .int .u8 0, .int .u8 0, .int .u8 0, .int .u8 0, .int .u8 0, .int .u8 0, .int .u8 0, .int .u8 0, .int .u8 0, .int .u8 0, .int .u8 0, .int .u8 0, .int .u8 0, .int .u8 0, .int .u8 0, .int .u8 0, .int .u8 0, .int .u8 0, .int .u8 0] 61)).setRow s2 TN.toArray).heap.size) := hB7.lt
      have hgl : Hid (∀ b, g = some b → b < s2) := fun b e => by have := hO.lt b e; have := hf7.size; omega
      have HB8 := hide hB7
      have HF8 := hide hF8
      have Hmm := hide hmm
      have Hd : Hid (mm = min 64 d ∧ 0 < mm) := ⟨by rw [← hmm]; unfold partN; omega, by rw [← hmm]; unfold partN; omega⟩
      have HT := hide hTN
      obtain ⟨XS, hXS⟩ : ∃ XS, (picN s.told b1 lg j).map bn = XS := ⟨_, rfl⟩
      rw [hXS] at hO8
      have HX := hide hXS
      have bm : m ≤ 4300000 ∧ d ≤ 4300000 := by omega
      clear hrd hB7 hF7 hTN hm hz hj hpd hd hTs hTl hj2 hO hg hF hB hf7 hmm hF8 hXS
      · have hmin : ∀ w', (Builtin.min_ #[3, 3] 3 #[.int .i64 64, .int .i64 (d : Int)]).run Try.prog w' = .ok (.int .i64 (mm : Int)) w' := fun w' => by
          have h1 := Hd.out.1
          rw [run_min_int2]
          congr 2
          split <;> omega
        have hmp : 0 < mm ∧ mm ≤ 64 := by have := Hd.out; omega
        have i7 : (0 : Int) ≤ (mm : Int) := by omega
        have i8 : (mm : Int) ≤ 64 := by omega
        go_wp2_with (first
          | (refine wpList_store_at rfl tSk _ _ rfl s2 0 TN.toArray rfl rfl tSk _ TN.toArray hZ7 Ti.out 64 64 zSize (by simpa using Tl.out) (by decide) To.out (by simp [Tl.out]) ?_)
          | (at_builtin; go_loud (refine wpList_append_ow _ rfl _ _ 22 rfl 5 i0 (.int .u8 0) 1 1 Try.underlying22 hi hz0 hz1 hz2 rfl (by decide) _ _ _ _ _ rfl hO8.out _ _ _ _ rfl hS8.out (bn_one _) (by unfold maxLen; omega) (by omega) ?_))
          | go_in)
        intro A2 c2 w9 g2 hA2 hf9 hg2
        obtain ⟨hm, hz, hj, hpd, hd, hTs, hTl, hj2, hO, hg, hF, hB⟩ := Hj.out
        have hB9 : Bl w9 s2 tSk TN.toArray := HB8.out.fr hf9 (fun e => by have := hgl.out s2 e.symm; omega)
        have hcl := fun ty => (clearS hB9 Tl.out mm (by omega) (by omega) ty).1
        obtain ⟨-, hB10, hf10⟩ := clearS hB9 Tl.out mm (by omega) (by omega) 0
        have hsw : wr.heap.size ≤ s2 := by have := HF8.out.size; have := hgl.out; have h9 := HszW.out; omega
        have hF10 : Fr (fun _ => False) w (w9.setCells s2 0 (List.replicate mm (Value.int .u8 0))) := (((hF.trans HF8.out).comp hf9 (fun i hi e => by have := hg i e.symm; omega)).comp hf10 (fun i hi e => by have := hF.size; omega))
        have hgn : ∀ b, g2 = some b → b ≠ s2 := fun b e => by
          rcases hg2 with h | ⟨b', h, hb'⟩
          · rw [h] at e; have := hgl.out b e; omega
          · rw [h] at e; cases e; have := hs8.out; have h3 : s2 + 1 ≤ b := hb'; omega
        have hO10 := hA2.fr hf10 (fun b e e2 => hgn b e e2)
        have hg10 : ∀ b, g2 = some b → w.heap.size ≤ b := fun b e => by
          rcases hg2 with h | ⟨b', h, hb'⟩
          · rw [h] at e; exact hg b e
          · rw [h] at e; cases e; have := hs8.out; have := hF.size; have h3 : s2 + 1 ≤ b := hb'; omega
        have hgs : ¬ (some sb = g) := fun e => by
          have h1 := hO
          rw [← e] at h1
          obtain ⟨cs, hc⟩ := h1.ty
          exact absurd (hB.same hc).2 (by decide)
        have hsb : sb < wr.heap.size := hB.lt
        have hB10' : Bl (w9.setCells s2 0 (List.replicate mm (Value.int .u8 0))) sb tSk hN.toArray := ((hB.fr HF8.out id).fr hf9 hgs).fr hf10 (by omega)
        have hpart : partN lg j = mm := Hmm.out
        have hz1 : s.told (b1 + j) = Ts := by rw [← hz]; exact hTs
        have hpic : (picN s.told b1 lg (j + 1)).map bn = XS ++ List.take mm (List.map bn Ts) := by rw [picN, hpart, hz1, List.map_append, List.map_take, HX.out]
        have hL5 : (List.replicate mm (Value.int .u8 0) ++ TN.drop mm) = (zeros mm ++ Ts.drop mm).map bn := by
          rw [← HT.out, List.map_append, List.map_drop]; simp [zeros, bn]
        have hL5l : (zeros mm ++ Ts.drop mm).length = 64 := by simp [zeros, hTl] <;> omega
        have hpn : padN s.told b1 lg (j + 1) = decide (Ts.drop mm = zeros (64 - mm)) := by rw [padN, hpd, hpart, hz1]; rfl
        have hgd : Try.prog.eqGuardType Try.prog.depth 61 = false := by kernel_rfl
        have iz : IntKind.i64.wrap ((z : Int) + 1) = (z : Int) + 1 := IntWalk.i64_in _ (by omega)
        have heqq : ∀ w2, (Op.equalIn 10000 61 (.agg ((zeros mm ++ Ts.drop mm).map bn).toArray) (.agg #[.int .u8 0, .int .u8 0, .int .u8 0, .int .u8 0, .int .u8 0, .int .u8 0, .int .u8 0, .int .u8 0, .int .u8 0, .int .u8 0, .int .u8 0, .int .u8 0, .int .u8 0, .int .u8 0, .int .u8 0, .int .u8 0, .int .u8 0, .int .u8 0, .int .u8 0, .int .u8 0, .int .u8 0, .int .u8 0, .int .u8 0, .int .u8 0, .int .u8 0, .int .u8 0, .int .u8 0, .int .u8 0, .int .u8 0, .int .u8 0, .int .u8 0, .int .u8 0, .int .u8 0, .int .u8 0, .int .u8 0, .int .u8 0, .int .u8 0, .int .u8 0, .int .u8 0, .int .u8 0, .int .u8 0, .int .u8 0, .int .u8 0, .int .u8 0, .int .u8 0, .int .u8 0, .int .u8 0, .int .u8 0, .int .u8 0, .int .u8 0, .int .u8 0, .int .u8 0, .int .u8 0, .int .u8 0, .int .u8 0, .int .u8 0, .int .u8 0, .int .u8 0, .int .u8 0, .int .u8 0, .int .u8 0, .int .u8 0, .int .u8 0, .int .u8 0])).run Try.prog w2 = .ok (decide (zeros mm ++ Ts.drop mm = zeros 64)) w2 := fun w2 => seck_eq w2 (zeros mm ++ Ts.drop mm) (zeros 64) hL5l (by simp [zeros])
        rw [hL5] at hB10
        obtain ⟨L5, hL5'⟩ : ∃ L5, (zeros mm ++ Ts.drop mm).map bn = L5 := ⟨_, rfl⟩
        have H5i : Hid ((Try.prog.info? tSk).map (·.size) = some L5.toArray.size) := by show _ = _; rw [List.size_toArray, ← hL5', List.length_map, hL5l]; kernel_rfl
        rw [hL5'] at heqq hB10
        have HE := hide (And.intro hF10 (And.intro hO10 (And.intro hg10 (And.intro hB10' (And.intro hpic hpn)))))
        by_cases hp : Ts.drop mm = zeros (64 - mm)
        · rw [decide_eq_true ((pad_iff Ts mm (by omega)).2 hp)] at heqq
          rw [decide_eq_true hp] at hpn
          have Hn := hide (show min (64 * (j + 1)) lg = m + mm ∧ 64 * (j + 1) < lg + 64 ∧ z + 1 = b1 + (j + 1) ∧ z < b1 + lg + 64 by unfold partN at hpart; omega)
          have Hpn := hide hpn
          clear hA2 hf9 hg2 hm hz hj hpd hd hTs hTl hj2 hO hg hF hB hB9 hf10 hsw hF10 hgn hO10 hg10 hgs hsb hB10' hpart hz1 hpic hL5 hL5l hpn hL5' hp
          go_wp2_with (refine wpList_load_row rfl tSk _ rfl s2 rfl tSk _ (0, 0) _ hB10 Try.underlying61 rfl H5i.out ?_)
          obtain ⟨hF10, hO10, hg10, hB10', hpic, -⟩ := HE.out
          refine ⟨⟨j + 1, m + mm, z + 1, A2, c2, g2, rfl, by go_num, Hn.out.1.symm, Hn.out.2.2.1, Hn.out.2.1, by rw [hpic]; exact hO10, hg10, Hpn.out, hF10, hB10'⟩, by have := Hn.out.2.2.2; simp [intOf]; omega⟩
        · rw [decide_eq_false (fun e => hp ((pad_iff Ts mm (by omega)).1 e))] at heqq
          rw [decide_eq_false hp] at hpn
          have hR0 : R = ([], 0) := by
            have h9 := padN_false ((lg + 63) / 64 - (j + 1)) (j + 1) hpn
            rw [show j + 1 + ((lg + 63) / 64 - (j + 1)) = (lg + 63) / 64 by omega] at h9
            have := HR2.out
            rw [if_pos h9] at this
            exact this.symm
          subst hR0
          clear hA2 hf9 hg2 hm hz hj hpd hd hTs hTl hj2 hO hg hF hB hB9 hf10 hsw hF10 hgn hO10 hg10 hgs hsb hB10' hpart hz1 hpic hL5 hL5l hpn hL5' hp
          go_wp2_with (refine wpList_load_row rfl tSk _ rfl s2 rfl tSk _ (0, 0) _ hB10 Try.underlying61 rfl H5i.out ?_)
          go_ret2
          exact StandsOut.none_ HE.out.1
    · obtain rfl : m = lg := by omega
      have hJ : j = (m + 63) / 64 := by omega
      have hR3 := HR2.out
      rw [← hJ, if_neg (by rw [hpd]; simp)] at hR3
      obtain ⟨hh, hhl, hhx, hhN⟩ := Hh.out
      have hpl : (picN s.told b1 m j).length = m := by have := hO.1; simpa using this
      have hpx : ∀ x ∈ picN s.told b1 m j, x < 256 := by
        have : ∀ J, J ≤ j → ∀ x ∈ picN s.told b1 m J, x < 256 := fun J => by
          induction J with
          | zero => intro _ x hx; simp [picN] at hx
          | succ J ih =>
            intro hJ x hx
            rw [picN] at hx
            rcases List.mem_append.1 hx with hx | hx
            · exact ih (by omega) x hx
            · exact hlt (b1 + J) (by omega) x (List.mem_of_mem_take hx)
        exact this j (Nat.le_refl _)
      obtain ⟨P, hP⟩ : ∃ P, picN s.told b1 m j = P := ⟨_, rfl⟩
      rw [hP] at hR3 hpl hpx hO
      have hcall : ∀ W, Fr (fun _ => False) wr W → Calls Try.prog 33 #[.int .i64 (tn : Int), .slice A m c] W fun e w' => e = .returned (.agg ((headN tn P).map bn).toArray) ∧ Fr (fun _ => False) W w' := fun W hW => head_any W tn (by omega) A m c P hpx hpl (by omega) ((hO.fr hW (fun _ _ => id)).sl)
      have hr0 : wr.rangeAt sb 0 hN := fun j v hv => by rw [hB.cell, Nat.zero_add]; simpa using hv
      have Hrr : Hid (∀ W, Fr (fun _ => False) wr W → W.rangeAt sb 0 hN) := fun W hW j v hv => by rw [(hB.fr hW id).cell, Nat.zero_add]; simpa using hv
      have hu61 := Try.underlying61
      have hi61 : (Try.prog.info? 61).map (·.size) = some hN.length := by have := Hi.out; simpa using this
      have hgd : Try.prog.eqGuardType Try.prog.depth 61 = false := by kernel_rfl
      have heqq : ∀ w2, (Op.equalIn 10000 61 (.agg ((headN tn P).map bn).toArray) (.agg hN.toArray)).run Try.prog w2 = .ok (decide (headN tn P = h)) w2 := fun w2 => by rw [← hhN]; exact seck_eq w2 _ _ (headN_len _ _) hhl
      obtain ⟨HD, hHD⟩ : ∃ HD, (headN tn P).map bn = HD := ⟨_, rfl⟩
      rw [hHD] at hcall heqq
      have Hcall := hide hcall
      have HE := hide (And.intro hO (And.intro hg hF))
      have hS0 : Fr (fun _ => False) wr wr := Fr.refl _ _
      have hpl' : Hid (P.length = m) := hpl
      by_cases he : headN tn P = h
      · rw [if_neg (by simpa using he)] at hR3
        rw [decide_eq_true he] at heqq
        subst hR3
        clear hm hz hj hpd hlg hJ hh hhl hhx hhN hpl hpx hP hO hg hF hB hHD hcall he
        go_wp2_with fail
        go_region_held3 (fun w' => Fr (fun _ => False) wr w' ∧ w'.rangeAt sb 0 hN) (first | assumption | exact Fr.drew (by assumption) | (refine ⟨?_, ?_⟩ <;> first | assumption | exact Fr.drew (by assumption)))
          ((go_at_call 33; refine (Hcall.out _ (by first | assumption | exact Fr.drew (by assumption))).mono ?_; rintro e w8 ⟨rfl, hf8⟩; have hq8 : Fr (fun _ => False) wr w8 := Fr.trans (by first | assumption | exact Fr.drew (by assumption)) hf8; have hr8 := Hrr.out _ hq8))
        go_wp2_with fail
        go_ret2
        obtain ⟨hO, hg, hF⟩ := HE.out
        exact ⟨A, c, g, by rw [hpl'.out]; rfl, by rw [hpl'.out]; exact hO.fr hq8 (fun _ _ => id), hg, hF.trans hq8⟩
      · rw [if_pos (by simpa using he)] at hR3
        rw [decide_eq_false he] at heqq
        subst hR3
        clear hm hz hj hpd hlg hJ hh hhl hhx hhN hpl hpx hP hO hg hF hB hHD hcall he
        go_wp2_with fail
        go_region_held3 (fun w' => Fr (fun _ => False) wr w' ∧ w'.rangeAt sb 0 hN) (first | assumption | exact Fr.drew (by assumption) | (refine ⟨?_, ?_⟩ <;> first | assumption | exact Fr.drew (by assumption)))
          ((go_at_call 33; refine (Hcall.out _ (by first | assumption | exact Fr.drew (by assumption))).mono ?_; rintro e w8 ⟨rfl, hf8⟩; have hq8 : Fr (fun _ => False) wr w8 := Fr.trans (by first | assumption | exact Fr.drew (by assumption)) hf8; have hr8 := Hrr.out _ hq8))
        go_wp2_with fail
        go_ret2
        exact StandsOut.none_ (HE.out.2.2.trans hq8)
end
end Go.Proofs.Ytchajbiloaiekaa
