/-
  TlvKnown: nothing (nil and zero ones).
-/
import Derived.Test.YtbglloafbmamoaaTlvV1
namespace Go.Proofs.Ytbglloafbmamoaa
open Go.RowKit
set_option linter.unusedVariables false
theorem one_form : ((WS.fresh.record 1 WS.none_).form, (WS.fresh.record 1 WS.none_).e) = ([], 1) := by kernel_rfl
set_option maxHeartbeats 2000000 in
set_option maxRecDepth 8000 in
theorem nothing_any (W : World) : Calls Try.prog 64 #[] W fun e w' => e = .returned (.bool true) ∧ Fr (fun _ => False) W w' := by
  go_enter Try.func64, Try.ntmps64
  go_wp2_with fail
  go_loopw [1, 3] (fun vr vi wr => ∃ (i : Nat) (a : Option Addr), i ≤ 2 ∧ vr = .pointer a ∧ vi = .int .i64 (i : Int) ∧ Hid (NZa wr a) ∧ Hid (Fr (fun _ => False) W wr)) (fun _ vi _ => 2 - (intOf vi).toNat)
  case atStart => exact ⟨0, none, Nat.zero_le _, rfl, rfl, .inl rfl, Fr.refl _ _⟩
  case round =>
    obtain ⟨i, a, hi, rfl, rfl, HN, HF⟩ := hrel
    by_cases hlt : i < 2
    · have i1 : (i : Int) < 2 := by omega
      have qc : IntKind.i64.wrap ((i : Int) + 1) = ((i + 1 : Nat) : Int) := by rw [IntWalk.i64_in _ (by omega)]; omega
      have Hlt := hide hlt
      clear hlt hi
      go_wp2_with fail
      refine (tfault_z HN.out.nz).mono ?_
      rintro e w' ⟨rfl, rfl⟩
      go_wp2_with fail
      refine (tend_z HN.out.nz).mono ?_
      rintro e w' ⟨rfl, rfl⟩
      go_wp2_with fail
      refine (num_any _ _).mono ?_
      rintro e w' ⟨rfl, rfl⟩
      go_wp2_with fail
      refine (num_any _ _).mono ?_
      rintro e w' ⟨rfl, rfl⟩
      go_wp2_with fail
      refine (tnum_z HN.out.nz 1 9).mono ?_
      rintro e w' ⟨rfl, rfl⟩
      go_wp2_with fail
      refine (traw_z HN.out.nz 1 9).mono ?_
      rintro e w2 ⟨A, c, g, rfl, -, -, hf⟩
      have HN2 := hide (HN.out.quiet hf)
      have HF2 := hide (HF.out.trans hf)
      clear hf HN HF
      go_wp2_with fail
      have c1 := ttext_z HN2.out.nz 1 9
      rw [show strOf [] = ⟨#[]⟩ from rfl] at c1
      refine c1.mono ?_
      clear c1
      rintro e w' ⟨rfl, rfl⟩
      go_wp2_with fail
      refine (tlist_z HN2.out.nz 1 9).mono ?_
      rintro e w' ⟨rfl, rfl⟩
      go_wp2_with fail
      refine (trecord_z HN2.out.nz 1).mono ?_
      rintro e w' ⟨rfl, rfl⟩
      go_wp2_with fail
      refine (trecords_z HN2.out.nz 1 9).mono ?_
      rintro e w' ⟨rfl, rfl⟩
      obtain ⟨wo, rfl⟩ : ∃ wo, wo = w2 := ⟨_, rfl⟩
      have hB := Bl.new wo 147 #[.pointer none, .int .i64 0, .slice none 0 0]
      have HN3 : Hid (NZa (wo.alloc (.cells #[.pointer none, .int .i64 0, .slice none 0 0] 147)) (some ⟨wo.heap.size, 0, none⟩)) := .inr ⟨_, rfl, hB.cell' rfl⟩
      have HF3 : Hid (Fr (fun _ => False) W (wo.alloc (.cells #[.pointer none, .int .i64 0, .slice none 0 0] 147))) := HF2.out.alloc _
      clear hB HN2 HF2
      go_wp2_with fail
      have := Hlt.out
      exact ⟨⟨i + 1, _, by omega, rfl, by first | rfl | go_num, HN3, HF3⟩, by simp [intOf]; try omega⟩
    · obtain rfl : i = 2 := by omega
      obtain ⟨w0, rfl⟩ : ∃ w0, w0 = wr := ⟨_, rfl⟩
      clear hlt hi HN
      go_wp2_with fail
      refine (tnumber_any _ none WS.none_ 1 1 (by decide) rfl).mono ?_
      rintro e w1 ⟨rfl, o1, -, -, -, hf1⟩
      have HF1 : Hid (Fr (fun _ => False) W w1) := HF.out.trans (Fr.trans (by (repeat (first | with_reducible exact Fr.refl _ _ | with_reducible assumption | with_reducible refine Fr.drew ?_ | with_reducible refine Fr.drewN ?_ _ | with_reducible refine Fr.alloc ?_ _ | with_reducible refine Fr.setIn ?_ (by first | exact Or.inl rfl | exact Or.inr (by simp; done) | exact Or.inr (by simp; omega) | exact Or.inr (by omega)) _))) (hf1.mono fun k _ h => by obtain ⟨r, e, -⟩ := h; cases e))
      clear hf1 HF o1
      obtain ⟨w0, rfl⟩ : ∃ w0, w0 = w1 := ⟨_, rfl⟩
      have HF := HF1
      clear HF1
      go_wp2_with fail
      have hap : ∀ (W' : World), True := fun _ => trivial
      clear hap
      refine (traw_any _ none WS.none_ 1 _ 1 1 [1] (by omega) rfl (Sl.row _ #[.int .u8 1] 5 1 1 rfl) (fun r e => by cases e)).mono ?_
      rintro e w1 ⟨rfl, o1, -, -, -, hf1⟩
      have HF1 : Hid (Fr (fun _ => False) W w1) := HF.out.trans (Fr.trans (by (repeat (first | with_reducible exact Fr.refl _ _ | with_reducible assumption | with_reducible refine Fr.drew ?_ | with_reducible refine Fr.drewN ?_ _ | with_reducible refine Fr.alloc ?_ _ | with_reducible refine Fr.setIn ?_ (by first | exact Or.inl rfl | exact Or.inr (by simp; done) | exact Or.inr (by simp; omega) | exact Or.inr (by omega)) _))) (hf1.mono fun k _ h => by obtain ⟨r, e, -⟩ := h; cases e))
      clear hf1 HF o1
      obtain ⟨w0, rfl⟩ : ∃ w0, w0 = w1 := ⟨_, rfl⟩
      have HF := HF1
      clear HF1
      go_wp2_with fail
      have c1 := fun w => ttext_any w none WS.none_ 1 [97] (by simp) (fun x h => by simp at h; omega) rfl
      rw [show strOf [97] = ⟨#[97]⟩ from rfl] at c1
      refine (c1 _).mono ?_
      rintro e w1 ⟨rfl, o1, -, -, -, hf1⟩
      have HF1 : Hid (Fr (fun _ => False) W w1) := HF.out.trans (Fr.trans (by (repeat (first | with_reducible exact Fr.refl _ _ | with_reducible assumption | with_reducible refine Fr.drew ?_ | with_reducible refine Fr.drewN ?_ _ | with_reducible refine Fr.alloc ?_ _ | with_reducible refine Fr.setIn ?_ (by first | exact Or.inl rfl | exact Or.inr (by simp; done) | exact Or.inr (by simp; omega) | exact Or.inr (by omega)) _))) (hf1.mono fun k _ h => by obtain ⟨r, e, -⟩ := h; cases e))
      clear hf1 HF o1
      obtain ⟨w0, rfl⟩ : ∃ w0, w0 = w1 := ⟨_, rfl⟩
      have HF := HF1
      clear HF1
      go_wp2_with fail
      clear c1
      have hb1 : Sl (w0.alloc (.cells #[.int .u8 1] 5)) 1 (some ⟨w0.heap.size, 0, none⟩) 1 ([1].map bn) := Sl.row w0 #[.int .u8 1] 5 1 1 rfl
      have hb2 : Bl ((w0.alloc (.cells #[.int .u8 1] 5)).alloc (.cells #[.slice (some ⟨w0.heap.size, 0, none⟩) 1 1] 23)) (w0.heap.size + 1) 23 #[.slice (some ⟨w0.heap.size, 0, none⟩) 1 1] := Bl.newAt (by simp)
      have hL := LAt.one hb2 (Sl.fr' ((Fr.refl (fun _ => False) _).alloc _) hb1 fun _ _ _ _ => id) (by omega)
      have hl1 : (listAll [[1]]).length = 2 := by kernel_rfl
      have c2 := twlist_any _ none WS.none_ 1 [[1]] _ 1 1 _ (by omega) (Nat.le_refl _) (fun x hx => by simp at hx; subst hx; simp) (by rw [hl1]; omega) hL rfl
      clear hb1 hb2 hL hl1
      refine c2.mono ?_
      clear c2
      rintro e w1 ⟨rfl, o1, -, -, -, hf1⟩
      have HF1 : Hid (Fr (fun _ => False) W w1) := HF.out.trans (Fr.trans (by (repeat (first | with_reducible exact Fr.refl _ _ | with_reducible assumption | with_reducible refine Fr.drew ?_ | with_reducible refine Fr.drewN ?_ _ | with_reducible refine Fr.alloc ?_ _ | with_reducible refine Fr.setIn ?_ (by first | exact Or.inl rfl | exact Or.inr (by simp; done) | exact Or.inr (by simp; omega) | exact Or.inr (by omega)) _))) (hf1.mono fun k _ h => by obtain ⟨r, e, -⟩ := h; cases e))
      clear hf1 HF o1
      obtain ⟨w0, rfl⟩ : ∃ w0, w0 = w1 := ⟨_, rfl⟩
      have HF := HF1
      clear HF1
      go_wp2_with fail
      refine (trecord_any _ none none WS.none_ WS.none_ 1 rfl rfl).mono ?_
      rintro e w1 ⟨rfl, o1, -, -, -, hf1⟩
      have HF1 : Hid (Fr (fun _ => False) W w1) := HF.out.trans (Fr.trans (by (repeat (first | with_reducible exact Fr.refl _ _ | with_reducible assumption | with_reducible refine Fr.drew ?_ | with_reducible refine Fr.drewN ?_ _ | with_reducible refine Fr.alloc ?_ _ | with_reducible refine Fr.setIn ?_ (by first | exact Or.inl rfl | exact Or.inr (by simp; done) | exact Or.inr (by simp; omega) | exact Or.inr (by omega)) _))) (hf1.mono fun k _ h => by obtain ⟨r, e, -⟩ := h; cases e))
      clear hf1 HF o1
      obtain ⟨w0, rfl⟩ : ∃ w0, w0 = w1 := ⟨_, rfl⟩
      have HF := HF1
      clear HF1
      go_wp2_with fail
      refine (tform_any' _ none WS.none_ rfl).mono ?_
      rintro e w1 ⟨A1, n1, c1, g1, rfl, -, -, hf1⟩
      have HF1 : Hid (Fr (fun _ => False) W w1) := HF.out.trans hf1
      clear hf1 HF
      have hB := Bl.new w1 tWr wcell
      have hT := wat_at hB
      unfold wcell at hT
      clear hB
      go_wp2_with fail
      refine (trecord_any _ (wat w1.heap.size) none WS.fresh WS.none_ 1 hT rfl).mono ?_
      rintro e w2 ⟨rfl, o2, hp2, hT2, -, hf2⟩
      have HF2 : Hid (Fr (fun _ => False) W w2) := (HF1.out.alloc _).comp hf2 fun x hx e => by have := wat_foot e; have := HF1.out.size; omega
      have c2 := tform_any' w2 o2 _ hT2
      unfold FormPost at c2
      obtain ⟨q1, q2⟩ := Prod.mk.inj one_form
      rw [hp2, q1, q2] at c2
      clear hT hT2 hf2 HF1
      go_wp2_with fail
      refine c2.mono ?_
      rintro e w3 ⟨A2, n2, c3, g2, rfl, -, -, hf3⟩
      have HF3 := hide (HF2.out.trans hf3)
      clear c2 hf3 HF2
      go_wp2_with fail
      refine (num_any _ _).mono ?_
      rintro e w' ⟨rfl, rfl⟩
      go_wp2_with fail
      refine (num_any _ _).mono ?_
      rintro e w' ⟨rfl, rfl⟩
      go_wp2_with fail
      go_ret
      exact ⟨rfl, HF3.out⟩
end Go.Proofs.Ytbglloafbmamoaa
