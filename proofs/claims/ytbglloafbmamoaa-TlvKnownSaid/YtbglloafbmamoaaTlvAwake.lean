/-
  awake.
-/
import Derived.Test.YtbglloafbmamoaaTlvR4
import Derived.Test.YtbglloafbmamoaaTlvQuiet
namespace Go.Proofs.Ytbglloafbmamoaa
open Go.RowKit
set_option linter.unusedVariables false

def WS.fresh : WS := ⟨[], 0, 0⟩
theorem WS.fresh_ok : WS.fresh.ok := ⟨Nat.zero_le _, Nat.zero_le _⟩
def wcell : Array Value := #[.slice none 0 0, .int .i64 0, .int .i64 0]
def wat (p : Nat) : Option WO := some ⟨p, none, 0, 0, none⟩
theorem wat_at {w : World} {ty : TypeId} {p : Nat} (h : Bl w p ty wcell) : TAt w ty (wat p) WS.fresh := ⟨h, Ow.nil_ _ _ _, WS.fresh_ok⟩
theorem wat_foot {p b : Nat} (h : foot (wat p) b) : b = p := by
  obtain ⟨r, e, h⟩ := h
  cases e
  rcases h with h | h
  · exact h
  · cases h

theorem short300 : short 300 = [172, 2] := by rw [short_big (by omega), short_small (by omega)]
theorem short2 : short 2 = [2] := short_small (by omega)
def awakeBytes : List Nat := [1, 2, 172, 2, 3, 2, 97, 98]
theorem awake1 : WS.fresh.number 1 300 = ⟨[1, 2, 172, 2], 1, 0⟩ := by
  rw [WS.number, if_neg (by decide), short300]
  simp [WS.put, WS.fresh, formF, short2]
theorem awake2 : (⟨[1, 2, 172, 2], 1, 0⟩ : WS).put 2 [] = ⟨[1, 2, 172, 2], 1, 0⟩ := WS.put_nil
theorem awake3 : (⟨[1, 2, 172, 2], 1, 0⟩ : WS).put 3 [97, 98] = ⟨awakeBytes, 3, 0⟩ := by
  simp [WS.put, formF, short2, awakeBytes]
def awakeD (tk : List Bool) : RD := ⟨awakeBytes, 0, [⟨1, 0, 2, 4⟩, ⟨3, 4, 6, 8⟩], tk⟩
theorem awakeGet : getAll awakeBytes = ([⟨1, 0, 2, 4⟩, ⟨3, 4, 6, 8⟩], 0, 0) := by
  have h0 : getS awakeBytes 0 0 = ([⟨1, 0, 2, 4⟩, ⟨3, 4, 6, 8⟩], 0, 0) := by
    rw [getS_one (F := ⟨1, 0, 2, 4⟩) (by decide) (by rfl) (by decide), getS_one (F := ⟨3, 4, 6, 8⟩) (by decide) (by rfl) (by decide), getS_end (by decide)]
  rw [getAll, if_neg (by decide), h0]; rfl
theorem awakeRead : readS ⟨0, 0⟩ 0 awakeBytes = (awakeD [false, false], ⟨0, 0⟩) := by
  rw [readS, if_neg (by decide)]
  simp only [awakeGet]
  rfl

set_option maxHeartbeats 2000000 in
set_option maxRecDepth 4000 in
theorem awake_any (w : World) : Calls Try.prog 39 #[] w fun e w' => e = .returned (.bool true) ∧ Fr (fun _ => False) w w' := by
  have hB := Bl.new w 51 wcell
  have hT0 := wat_at hB
  have hf0 : Fr (fun _ => False) w (w.alloc (.cells wcell 51)) := (Fr.refl _ _).alloc _
  unfold wcell at hT0 hf0
  clear hB
  go_enter Try.func39, Try.ntmps39
  go_wp2_with fail
  refine (tnumber_any _ (wat w.heap.size) WS.fresh 1 300 (by decide) hT0).mono ?_
  rintro e w1 ⟨rfl, o1, hp1, hT1, hft1, hf1⟩
  rw [awake1] at hT1
  have h2 := ttext_any w1 o1 _ 2 [] (by decide) (fun x h => by cases h) hT1
  rw [hp1] at h2
  go_wp2_with fail
  refine h2.mono ?_
  rintro e w2 ⟨rfl, o2, hp2, hT2, hft2, hf2⟩
  rw [awake2] at hT2
  have h3 := ttext_any w2 o2 _ 3 [97, 98] (by decide) (fun x h => by simp at h; omega) hT2
  rw [hp2, hp1] at h3
  clear h2
  go_wp2_with fail
  refine h3.mono ?_
  rintro e w3 ⟨rfl, o3, hp3, hT3, hft3, hf3⟩
  rw [awake3] at hT3
  have h4 := tform_any' w3 o3 _ hT3
  rw [hp3, hp2, hp1] at h4
  clear h3
  go_wp2_with fail
  refine h4.mono ?_
  rintro e w4 ⟨A, n, c, g, rfl, hO, hg, hf4⟩
  have hO' : Ow w4 5 1 A n c (awakeBytes.map bn) g := hO
  obtain rfl : n = 8 := hO'.len
  have HO := hide hO'
  have s1 := hf0.size
  have hfw : Fr (fun _ => False) w w4 := (((hf0.comp hf1 fun x hx e => by have := wat_foot e; omega).comp hf2 fun x hx e => by
    rcases hft1 x e with h | h
    · have := wat_foot h; omega
    · have := hf0.size; omega).comp hf3 fun x hx e => by
      rcases hft2 x e with h | h
      · rcases hft1 x h with h | h
        · have := wat_foot h; omega
        · have := hf0.size; omega
      · have := hf0.size; have := hf1.size; omega).trans hf4
  clear h4 hO hO' hT0 hT1 hT2 hT3
  go_wp2_with fail
  refine (num_any _ _).mono ?_
  rintro e w' ⟨rfl, rfl⟩
  go_wp2_with fail
  refine (same_q _ awakeBytes A _ c 8 8 rfl (by omega) (HO.out.fr (S := fun _ => False) ((Fr.refl _ _).alloc _) (fun _ _ => id)).sl (Sl.row _ _ _ 1 8 rfl)).mono ?_
  rintro e w5 ⟨rfl, hd5⟩
  have hf5 : Fr (fun _ => False) w4 w5 := ((Fr.refl _ _).alloc _).trans (fr_of_drewN hd5)
  clear hd5
  go_wp2_with fail
  refine (tnew_any _ awakeBytes A 8 c (by omega) (by decide) (HO.out.fr hf5 (fun _ _ => id)).sl).mono ?_
  rintro e w6 ⟨r, pf, b, rfl, hT6, hF6, hpf, hft, _, hf6⟩
  rw [awakeRead] at hT6 hF6
  have s5 := hfw.size
  have s6 := hf5.size
  simp only [rp]
  go_wp2_with fail
  refine (trnum_any w6 pf b r (awakeD [false, false]) ⟨0, 0⟩ 1 1000 (by decide) hT6 hF6).mono ?_
  rintro e w7 ⟨rfl, hP7⟩
  have e1 : numberS (awakeD [false, false]) ⟨0, 0⟩ 1 1000 = (300, ⟨0, 0⟩) := by rfl
  have e2 : (awakeD [false, false]).took ⟨0, 0⟩ 1 = awakeD [true, false] := by rfl
  rw [e1, e2] at hP7
  rw [e1]
  go_wp2_with fail
  refine (trnum_any w7 pf b r (awakeD [true, false]) ⟨0, 0⟩ 2 0 (by decide) hP7.tr hP7.flt).mono ?_
  rintro e w8 ⟨rfl, hP8⟩
  have e3 : numberS (awakeD [true, false]) ⟨0, 0⟩ 2 0 = (0, ⟨0, 0⟩) := by rfl
  have e4 : (awakeD [true, false]).took ⟨0, 0⟩ 2 = awakeD [true, false] := by rfl
  rw [e3, e4] at hP8
  rw [e3]
  go_wp2_with fail
  refine (trtext_any w8 pf b r (awakeD [true, false]) ⟨0, 0⟩ 3 2 hP8.tr hP8.flt).mono ?_
  rintro e w9 ⟨rfl, hP9⟩
  have e5 : rawS (awakeD [true, false]) ⟨0, 0⟩ 3 2 = ([97, 98], ⟨0, 0⟩) := by rfl
  have e6 : (awakeD [true, false]).took ⟨0, 0⟩ 3 = awakeD [true, true] := by rfl
  have e7 : strOf [97, 98] = ⟨#[97, 98]⟩ := by rfl
  rw [e5, e6] at hP9
  rw [e5, e7]
  go_wp2_with fail
  refine (tend_any w9 pf b r (awakeD [true, true]) ⟨0, 0⟩ hP9.tr hP9.flt).mono ?_
  rintro e w10 ⟨rfl, hP10⟩
  have e8 : endS (awakeD [true, true]) ⟨0, 0⟩ = ⟨0, 0⟩ := by rfl
  rw [e8]
  go_wp2_with fail
  refine (num_any _ _).mono ?_
  rintro e w' ⟨rfl, rfl⟩
  go_wp2_with fail
  go_ret
  refine ⟨rfl, ?_⟩
  have hall := ((hP7.fr.trans hP8.fr).trans hP9.fr).trans hP10.fr
  exact ((hfw.trans hf5).trans hf6).comp hall fun x hx e => by
    rcases e with e | e
    · omega
    · have := hft x e; omega
end Go.Proofs.Ytbglloafbmamoaa
