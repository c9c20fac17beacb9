/-
  Texts merged into one, to keep the claim small: PrM7.
-/
import Derived.Deep.CutBlock
import Derived.Test.YtlcjhbemgagchaaMc17
import Derived.Test.YtlcjhbemgagchaaMc19
import Derived.Test.YtlcjhbemgagchaaMc28
/-
  proto: May of the reference. (printed by pr_may2.py)
-/
namespace Go.Proofs.Ytlcjhbemgagchaa
open Go.RowKit
set_option linter.unusedVariables false
set_option linter.unusedSimpArgs false
set_option maxHeartbeats 4000000 in
set_option maxRecDepth 8000 in
theorem May_fine13 (w : World) (r : KC) (h : r.at_ w) (hwf : r.wf) (hfine : r.fine = true) (hkind : r.kind = 13) :
    Calls Try.prog 74 #[.agg #[.int .i64 r.id, .int .i64 r.kind, .string (strOf r.name), .int .i64 r.to_, .int .u64 (r.co : Int), .int .i64 r.item, .int .i64 r.num, .int .i64 r.of_, .int .i64 r.e.acc, .int .i64 r.e.item, .int .u64 (r.e.co : Int), .int .u64 (r.e.pr : Int), .slice r.e.A r.e.n r.e.c, .int .i64 r.k.num, .int .i64 r.k.kind, .int .i64 r.k.by_, .int .i64 r.k.dl, .int .i64 r.k.to_, .int .i64 r.k.want, .int .u64 (r.k.pr : Int), .int .u64 (r.k.rs : Int), .int .u64 (r.k.st : Int), .int .i64 r.k.of_, .slice r.k.A r.k.n r.k.c]] w fun e w' => e = .returned (.bool r.ok) ∧ Fr (fun _ => False) w w' := by
  have HE : Hid (∀ w1, Fr (fun _ => False) w w1 → Calls Try.prog 112 #[.agg #[.int .i64 r.e.acc, .int .i64 r.e.item, .int .u64 (r.e.co : Int), .int .u64 (r.e.pr : Int), .slice r.e.A r.e.n r.e.c]] w1 fun e w' => e = .returned (.bool r.e.ok) ∧ Fr (fun _ => False) w1 w') := fun w1 hf => rentry_any w1 r.e (h.e.quiet hf)
  have HK : Hid (∀ w1, Fr (fun _ => False) w w1 → Calls Try.prog 113 #[.agg #[.int .i64 r.k.num, .int .i64 r.k.kind, .int .i64 r.k.by_, .int .i64 r.k.dl, .int .i64 r.k.to_, .int .i64 r.k.want, .int .u64 (r.k.pr : Int), .int .u64 (r.k.rs : Int), .int .u64 (r.k.st : Int), .int .i64 r.k.of_, .slice r.k.A r.k.n r.k.c]] w1 fun e w' => e = .returned (.bool r.k.ok) ∧ Fr (fun _ => False) w1 w') := fun w1 hf => rcontract_any w1 r.k (h.k.quiet hf)
  have Hxn : Hid (r.k.n = r.k.es.length) := h.k.len
  have hxle := h.k.le
  obtain ⟨a1, a2, a3, a4, a5, a6, a7, a8, a9, a10⟩ := KC.fine_split hfine
  have HEF : Hid (∀ w1, Fr (fun _ => False) w w1 → Calls Try.prog 77 #[.agg #[.int .i64 r.e.acc, .int .i64 r.e.item, .int .u64 (r.e.co : Int), .int .u64 (r.e.pr : Int), .slice r.e.A r.e.n r.e.c]] w1 (BP r.e.form.length r.e.form w1)) := fun w1 hf => entryForm_any w1 r.e (h.e.quiet hf) a5 hwf.e
  have HKF : Hid (∀ w1, Fr (fun _ => False) w w1 → Calls Try.prog 78 #[.agg #[.int .i64 r.k.num, .int .i64 r.k.kind, .int .i64 r.k.by_, .int .i64 r.k.dl, .int .i64 r.k.to_, .int .i64 r.k.want, .int .u64 (r.k.pr : Int), .int .u64 (r.k.rs : Int), .int .u64 (r.k.st : Int), .int .i64 r.k.of_, .slice r.k.A r.k.n r.k.c]] w1 (BP r.k.form.length r.k.form w1)) := fun w1 hf => contractForm_any w1 r.k (h.k.quiet hf) a7 hwf.k
  have HL8 : Hid (decide (r.e.form.length = 0) = r.e.blank) := ER.form_blank a5 a6
  have HL7 : Hid (decide (r.k.form.length = 0) = r.k.blank) := CR.form_blank a7
  obtain ⟨fl8, hfl8⟩ : ∃ n, r.e.form.length = n := ⟨_, rfl⟩
  obtain ⟨fl7, hfl7⟩ : ∃ n, r.k.form.length = n := ⟨_, rfl⟩
  rw [hfl8] at HEF HL8
  rw [hfl7] at HKF HL7
  rw [a5] at HE
  rw [a7] at HK
  have n10 := okL_mem a4 (n := r.to_) (by simp)
  have n20 := okL_mem a4 (n := r.item) (by simp)
  have n30 := okL_mem a4 (n := r.num) (by simp)
  have n40 := okL_mem a4 (n := r.of_) (by simp)
  have HN1 := hide (fun w1 => rnumber_is w1 r.to_ true (okN_iff.2 n10))
  have HN2 := hide (fun w1 => rnumber_is w1 r.item true (okN_iff.2 n20))
  have HN3 := hide (fun w1 => rnumber_is w1 r.num true (okN_iff.2 n30))
  have HN4 := hide (fun w1 => rnumber_is w1 r.of_ true (okN_iff.2 n40))
  clear h hwf n10 n20 n30 n40 a4 a5 a7 hfl8 hfl7
  obtain ⟨rid, kind, name, to_, co, item, num, of_, ⟨acc, ei, ec, ep, E, en, ecp, ews⟩, ⟨knum, kkind, kby, kdl, kto, kwant, kpr, krs, kst, kof, X, xn, xc, kes⟩⟩ := r
  simp only at HE HK HEF HKF HL8 HL7 HN1 HN2 HN3 HN4 Hxn hxle hkind hfine a1 a2 a3 a6 a8 a9 a10 ⊢
  subst hkind
  rw [← (Hxn.out : xn = kes.length)] at a10
  obtain ⟨ok, hok⟩ : ∃ ok, KC.ok ⟨rid, 13, name, to_, co, item, num, of_, ⟨acc, ei, ec, ep, E, en, ecp, ews⟩, ⟨knum, kkind, kby, kdl, kto, kwant, kpr, krs, kst, kof, X, xn, xc, kes⟩⟩ = ok := ⟨_, rfl⟩
  obtain ⟨m7, hm7⟩ : ∃ b, CR.blank ⟨knum, kkind, kby, kdl, kto, kwant, kpr, krs, kst, kof, X, xn, xc, kes⟩ = b := ⟨_, rfl⟩
  obtain ⟨m8, hm8⟩ : ∃ b, ER.blank ⟨acc, ei, ec, ep, E, en, ecp, ews⟩ = b := ⟨_, rfl⟩
  obtain ⟨ef, hef⟩ : ∃ l, ER.form ⟨acc, ei, ec, ep, E, en, ecp, ews⟩ = l := ⟨_, rfl⟩
  obtain ⟨kf, hkf⟩ : ∃ l, CR.form ⟨knum, kkind, kby, kdl, kto, kwant, kpr, krs, kst, kof, X, xn, xc, kes⟩ = l := ⟨_, rfl⟩
  rw [hm7] at HL7
  rw [hm8] at HL8
  rw [hef] at HEF
  rw [hkf] at HKF
  rw [hok]
  unfold KC.ok at hok
  rw [hfine] at hok
  simp only at hok
  rw [hm7, hm8, Bool.true_and] at hok
  obtain ⟨str, hstr⟩ : ∃ str, strOf name = str := ⟨_, rfl⟩
  obtain ⟨sl, hsl⟩ : ∃ sl, name.length = sl := ⟨_, rfl⟩
  have hsz : str.size = sl := by rw [← hstr, ← hsl]; exact strOf_size name
  rw [hstr]
  have Hnm : Hid ((str = ⟨#[]⟩) = (sl = 0)) := by
    show (_ = _) = (_ = _)
    refine propext ⟨fun e => by rw [← hsz, e]; rfl, fun e => ?_⟩
    have : name = [] := List.length_eq_zero_iff.1 (by rw [hsl]; exact e)
    rw [← hstr, this]; rfl
  rw [hsl] at hok a3
  have HOK : Hid (ok = _) := hok.symm
  clear hok hm7 hm8 hef hkf hsl hstr hfine a1
  have i1 : decide (rid < 0) = false := decide_eq_false (by omega)
  have i2 : decide ((4294967295 : Int) < rid) = false := decide_eq_false (by omega)
  have i3 : decide ((128 : Int) < (sl : Int)) = false := decide_eq_false (by omega)
  have i4 : decide (128 < sl) = false := decide_eq_false (by omega)
  have i6 : (acc != 0) = false := by rw [a6]; rfl
  have i8 : (knum != 0) = false := by rw [a8]; rfl
  have i10 : (kby != 0) = false := by rw [a9]; rfl
  have i12 : (xn != 0) = false := by rw [a10]; rfl
  have i13 : ((xn : Int) != 0) = false := by rw [a10]; rfl
  clear a2 a3 a6 a8 a9 a10
  have HB0 : Hid (Bl (w.alloc (.cells #[.int .i64 rid, .int .i64 13, .string str, .int .i64 to_, .int .u64 (co : Int), .int .i64 item, .int .i64 num, .int .i64 of_, .int .i64 acc, .int .i64 ei, .int .u64 (ec : Int), .int .u64 (ep : Int), .slice E en ecp, .int .i64 knum, .int .i64 kkind, .int .i64 kby, .int .i64 kdl, .int .i64 kto, .int .i64 kwant, .int .u64 (kpr : Int), .int .u64 (krs : Int), .int .u64 (kst : Int), .int .i64 kof, .slice X xn xc] 31)) w.heap.size 31 #[.int .i64 rid, .int .i64 13, .string str, .int .i64 to_, .int .u64 (co : Int), .int .i64 item, .int .i64 num, .int .i64 of_, .int .i64 acc, .int .i64 ei, .int .u64 (ec : Int), .int .u64 (ep : Int), .slice E en ecp, .int .i64 knum, .int .i64 kkind, .int .i64 kby, .int .i64 kdl, .int .i64 kto, .int .i64 kwant, .int .u64 (kpr : Int), .int .u64 (krs : Int), .int .u64 (kst : Int), .int .i64 kof, .slice X xn xc]) := Bl.new _ _ _
  have HF0 : Hid (Fr (fun _ => False) w (w.alloc (.cells #[.int .i64 rid, .int .i64 13, .string str, .int .i64 to_, .int .u64 (co : Int), .int .i64 item, .int .i64 num, .int .i64 of_, .int .i64 acc, .int .i64 ei, .int .u64 (ec : Int), .int .u64 (ep : Int), .slice E en ecp, .int .i64 knum, .int .i64 kkind, .int .i64 kby, .int .i64 kdl, .int .i64 kto, .int .i64 kwant, .int .u64 (kpr : Int), .int .u64 (krs : Int), .int .u64 (kst : Int), .int .i64 kof, .slice X xn xc] 31))) := (Fr.refl _ _).alloc _
  have c3 := HB0.out.cell' (i := 3) rfl
  have c5 := HB0.out.cell' (i := 5) rfl
  have c6 := HB0.out.cell' (i := 6) rfl
  have c7 := HB0.out.cell' (i := 7) rfl
  have c8 := HB0.out.cell' (i := 8) rfl
  go_enter Try.func74, Try.ntmps74
  go_wp2_with fail
  refine (HN1.out _).mono ?_
  rintro x w' ⟨rfl, rfl⟩
  go_wp2_with fail
  refine (HN2.out _).mono ?_
  rintro x w' ⟨rfl, rfl⟩
  go_wp2_with fail
  refine (HN3.out _).mono ?_
  rintro x w' ⟨rfl, rfl⟩
  go_wp2_with fail
  refine (HN4.out _).mono ?_
  rintro x w' ⟨rfl, rfl⟩
  have c9 := HB0.out.cell' (i := 9) rfl
  have c10 := HB0.out.cell' (i := 10) rfl
  have c11 := HB0.out.cell' (i := 11) rfl
  have c12 := HB0.out.cell' (i := 12) rfl
  go_wp2_with fail
  refine (HE.out _ HF0.out).mono ?_
  rintro x w3 ⟨rfl, hf3⟩
  have HF3 := hide (HF0.out.trans hf3)
  have HB3 := hide (HB0.out.fr hf3 (fun x => x))
  clear hf3 HE HF0 HB0 c3 c5 c6 c7 c8 c9 c10 c11 c12
  have hb3 := HB3.out
  unfold Bl at hb3
  go_wp2_with (refine wpList_load_at rfl 29 _ rfl w.heap.size 13 rfl 31 _ #[.int .i64 knum, .int .i64 kkind, .int .i64 kby, .int .i64 kdl, .int .i64 kto, .int .i64 kwant, .int .u64 (kpr : Int), .int .u64 (krs : Int), .int .u64 (kst : Int), .int .i64 kof, .slice X xn xc] (0, 0) _ hb3 Try.underlying29 rfl (by kernel_rfl) rfl ?_)
  refine (HK.out _ HF3.out).mono ?_
  rintro x w4 ⟨rfl, hf4⟩
  have HF4 := hide (HF3.out.trans hf4)
  have HB4 := hide (HB3.out.fr hf4 (fun x => x))
  clear hf4 HF3 HB3 HK hb3
  have c1 := HB4.out.cell' (i := 1) rfl
  have c2 := HB4.out.cell' (i := 2) rfl
  have c3 := HB4.out.cell' (i := 3) rfl
  have c4 := HB4.out.cell' (i := 4) rfl
  have c5 := HB4.out.cell' (i := 5) rfl
  have c6 := HB4.out.cell' (i := 6) rfl
  have c7 := HB4.out.cell' (i := 7) rfl
  have c13 := HB4.out.cell' (i := 13) rfl
  have c15 := HB4.out.cell' (i := 15) rfl
  have c23 := HB4.out.cell' (i := 23) rfl
  by_cases e0 : sl = 0
  rotate_left
  · have V : Hid ((inK [1, 14] 13 || decide (sl = 0)) = false) := by
      show _ = _
      rw [decide_eq_false e0]; rfl
    have n1 : str.toList.isEmpty = false := by
      rw [← decide_eq_emptyBytes]
      exact decide_eq_false fun e => e0 (Hnm.out ▸ e)
    clear e0
    go_wp2_with fail
    go_ret
    have hr : ok = false := by rw [HOK.out]; simp only [V.out, Bool.and_true, Bool.true_and, Bool.and_false, Bool.false_and]
    exact ⟨by rw [hr]; rfl, HF4.out⟩
  have V1 : Hid ((inK [1, 14] 13 || decide (sl = 0)) = true) := by
    show _ = _
    rw [decide_eq_true e0]; rfl
  have n10 : str.toList.isEmpty = true := by
    rw [← decide_eq_emptyBytes]
    exact decide_eq_true (Hnm.out.symm ▸ e0 : str = ⟨#[]⟩)
  clear e0
  by_cases e0 : to_ = 0
  rotate_left
  · have V : Hid ((inK [2, 3, 4, 5, 9, 10] 13 || decide (to_ = 0)) = false) := by
      show _ = _
      rw [decide_eq_false e0]; rfl
    have n2 : (to_ != 0) = true := by simpa using e0
    clear e0
    go_wp2_with fail
    go_ret
    have hr : ok = false := by rw [HOK.out]; simp only [V1.out, V.out, Bool.and_true, Bool.true_and, Bool.and_false, Bool.false_and]
    exact ⟨by rw [hr]; rfl, HF4.out⟩
  have V2 : Hid ((inK [2, 3, 4, 5, 9, 10] 13 || decide (to_ = 0)) = true) := by
    show _ = _
    rw [decide_eq_true e0]; rfl
  have n21 : (to_ != 0) = false := by rw [e0]; rfl
  clear e0
  by_cases e0 : co = 0
  rotate_left
  · have V : Hid ((inK [2, 4] 13 || decide (co = 0)) = false) := by
      show _ = _
      rw [decide_eq_false e0]; rfl
    have n2 : (co != 0) = true := by simpa using e0
    have n1 : ((co : Int) != 0) = true := by simpa using e0
    clear e0
    go_wp2_with fail
    go_ret
    have hr : ok = false := by rw [HOK.out]; simp only [V1.out, V2.out, V.out, Bool.and_true, Bool.true_and, Bool.and_false, Bool.false_and]
    exact ⟨by rw [hr]; rfl, HF4.out⟩
  have V3 : Hid ((inK [2, 4] 13 || decide (co = 0)) = true) := by
    show _ = _
    rw [decide_eq_true e0]; rfl
  have n22 : (co != 0) = false := by rw [e0]; rfl
  have n12 : ((co : Int) != 0) = false := by rw [e0]; rfl
  clear e0
  by_cases e0 : item = 0
  rotate_left
  · have V : Hid ((inK [5, 11] 13 || decide (item = 0)) = false) := by
      show _ = _
      rw [decide_eq_false e0]; rfl
    have n2 : (item != 0) = true := by simpa using e0
    clear e0
    go_wp2_with fail
    go_ret
    have hr : ok = false := by rw [HOK.out]; simp only [V1.out, V2.out, V3.out, V.out, Bool.and_true, Bool.true_and, Bool.and_false, Bool.false_and]
    exact ⟨by rw [hr]; rfl, HF4.out⟩
  have V4 : Hid ((inK [5, 11] 13 || decide (item = 0)) = true) := by
    show _ = _
    rw [decide_eq_true e0]; rfl
  have n23 : (item != 0) = false := by rw [e0]; rfl
  clear e0
  by_cases e0 : num = 0
  rotate_left
  · have V : Hid ((inK [7, 8, 12] 13 || decide (num = 0)) = false) := by
      show _ = _
      rw [decide_eq_false e0]; rfl
    have n2 : (num != 0) = true := by simpa using e0
    clear e0
    go_wp2_with fail
    go_ret
    have hr : ok = false := by rw [HOK.out]; simp only [V1.out, V2.out, V3.out, V4.out, V.out, Bool.and_true, Bool.true_and, Bool.and_false, Bool.false_and]
    exact ⟨by rw [hr]; rfl, HF4.out⟩
  have V5 : Hid ((inK [7, 8, 12] 13 || decide (num = 0)) = true) := by
    show _ = _
    rw [decide_eq_true e0]; rfl
  have n24 : (num != 0) = false := by rw [e0]; rfl
  clear e0
  go_upto_region 19 with fail
  go_cut [1, 4, 173] (fun s1 s4 sv wx => s1 = .pointer (some ⟨w.heap.size, 0, none⟩) ∧ s4 = .int .i64 13 ∧ sv = .bool false ∧ wx = w4)
  case first =>
    by_cases e0 : of_ = 0
    · skip
      have n2 : (of_ != 0) = false := by rw [e0]; rfl
      clear e0
      go_wp2_with fail
      go_meet
      case rel => exact ⟨rfl, rfl, rfl, rfl⟩
    · skip
      have n2 : (of_ != 0) = true := by simpa using e0
      clear e0
      go_wp2_with fail
      go_meet
      case rel => exact ⟨rfl, rfl, rfl, rfl⟩
  case rest =>
  obtain ⟨rfl, rfl, rfl, hwc⟩ := hcut
  obtain rfl := hwc.symm
  have V6 : Hid ((inK [3, 13] 13 || decide (of_ = 0)) = true) := rfl
  have c8 := HB4.out.cell' (i := 8) rfl
  have c9 := HB4.out.cell' (i := 9) rfl
  have c10 := HB4.out.cell' (i := 10) rfl
  have c11 := HB4.out.cell' (i := 11) rfl
  have c12 := HB4.out.cell' (i := 12) rfl
  go_wp2_with fail
  refine (HEF.out w4 HF4.out).mono ?_
  rintro x w5 ⟨X5, c5', g5, rfl, -, -, hf5⟩
  have HF5 := hide (HF4.out.trans hf5)
  have HB5 := hide (HB4.out.fr hf5 (fun x => x))
  clear hf5 HB4 c1 c2 c3 c4 c5 c6 c7 c8 c9 c10 c11 c12 c13 c15 c23
  have hb5 := HB5.out
  unfold Bl at hb5
  by_cases e0 : fl8 = 0
  · skip
    have n1 : ((fl8 : Int) != 0) = false := by rw [e0]; rfl
    have n2 : (fl8 != 0) = false := by rw [e0]; rfl
    have M8 : Hid (m8 = true) := by show m8 = _; rw [← HL8.out]; simp [e0]
    clear e0
    go_wp2_with (refine wpList_load_at rfl 29 _ rfl w.heap.size 13 rfl 31 _ #[.int .i64 knum, .int .i64 kkind, .int .i64 kby, .int .i64 kdl, .int .i64 kto, .int .i64 kwant, .int .u64 (kpr : Int), .int .u64 (krs : Int), .int .u64 (kst : Int), .int .i64 kof, .slice X xn xc] (0, 0) _ hb5 Try.underlying29 rfl (by kernel_rfl) rfl ?_)
    refine (HKF.out w5 HF5.out).mono ?_
    rintro x w6 ⟨X6, c6', g6, rfl, -, -, hf6⟩
    have HF6 := hide (HF5.out.trans hf6)
    clear hf6 hb5
    by_cases e1 : fl7 = 0
    · have M7 : Hid (m7 = true) := by show m7 = _; rw [← HL7.out]; simp [e1]
      have n3 : ((fl7 : Int) == 0) = true := by rw [e1]; rfl
      have E1 := hide e1
      have hr : Hid (ok = true) := by show ok = _; rw [HOK.out]; simp only [V1.out, V2.out, V3.out, V4.out, V5.out, V6.out, M8.out, M7.out]; rfl
      go_wp2_with fail
      go_ret
      exact ⟨by rw [hr.out]; rfl, HF6.out⟩
    · have M7 : Hid (m7 = false) := by show m7 = _; rw [← HL7.out]; simp [e1]
      have n3 : ((fl7 : Int) == 0) = false := by simpa using e1
      have n4 : (fl7 == 0) = false := by simpa using e1
      have n5 : ¬ fl7 = 0 := e1
      have hr : Hid (ok = false) := by show ok = _; rw [HOK.out]; simp only [V1.out, V2.out, V3.out, V4.out, V5.out, V6.out, M8.out, M7.out]; rfl
      clear e1
      go_wp2_with fail
      go_ret
      exact ⟨by rw [hr.out]; rfl, HF6.out⟩
  · skip
    have n1 : ((fl8 : Int) != 0) = true := by simpa using e0
    have n2 : (fl8 != 0) = true := by simpa using e0
    have M8 : Hid (m8 = false) := by show m8 = _; rw [← HL8.out]; simp [e0]
    clear e0
    have hr : Hid (ok = false) := by
      show ok = _
      rw [HOK.out]
      simp only [V1.out, V2.out, V3.out, V4.out, V5.out, V6.out, M8.out]
      cases m7 <;> rfl
    go_wp2_with fail
    go_ret
    exact ⟨by rw [hr.out]; rfl, HF5.out⟩
set_option maxHeartbeats 4000000 in
set_option maxRecDepth 8000 in
theorem May_fine14 (w : World) (r : KC) (h : r.at_ w) (hwf : r.wf) (hfine : r.fine = true) (hkind : r.kind = 14) :
    Calls Try.prog 74 #[.agg #[.int .i64 r.id, .int .i64 r.kind, .string (strOf r.name), .int .i64 r.to_, .int .u64 (r.co : Int), .int .i64 r.item, .int .i64 r.num, .int .i64 r.of_, .int .i64 r.e.acc, .int .i64 r.e.item, .int .u64 (r.e.co : Int), .int .u64 (r.e.pr : Int), .slice r.e.A r.e.n r.e.c, .int .i64 r.k.num, .int .i64 r.k.kind, .int .i64 r.k.by_, .int .i64 r.k.dl, .int .i64 r.k.to_, .int .i64 r.k.want, .int .u64 (r.k.pr : Int), .int .u64 (r.k.rs : Int), .int .u64 (r.k.st : Int), .int .i64 r.k.of_, .slice r.k.A r.k.n r.k.c]] w fun e w' => e = .returned (.bool r.ok) ∧ Fr (fun _ => False) w w' := by
  have HE : Hid (∀ w1, Fr (fun _ => False) w w1 → Calls Try.prog 112 #[.agg #[.int .i64 r.e.acc, .int .i64 r.e.item, .int .u64 (r.e.co : Int), .int .u64 (r.e.pr : Int), .slice r.e.A r.e.n r.e.c]] w1 fun e w' => e = .returned (.bool r.e.ok) ∧ Fr (fun _ => False) w1 w') := fun w1 hf => rentry_any w1 r.e (h.e.quiet hf)
  have HK : Hid (∀ w1, Fr (fun _ => False) w w1 → Calls Try.prog 113 #[.agg #[.int .i64 r.k.num, .int .i64 r.k.kind, .int .i64 r.k.by_, .int .i64 r.k.dl, .int .i64 r.k.to_, .int .i64 r.k.want, .int .u64 (r.k.pr : Int), .int .u64 (r.k.rs : Int), .int .u64 (r.k.st : Int), .int .i64 r.k.of_, .slice r.k.A r.k.n r.k.c]] w1 fun e w' => e = .returned (.bool r.k.ok) ∧ Fr (fun _ => False) w1 w') := fun w1 hf => rcontract_any w1 r.k (h.k.quiet hf)
  have Hxn : Hid (r.k.n = r.k.es.length) := h.k.len
  have hxle := h.k.le
  obtain ⟨a1, a2, a3, a4, a5, a6, a7, a8, a9, a10⟩ := KC.fine_split hfine
  have HEF : Hid (∀ w1, Fr (fun _ => False) w w1 → Calls Try.prog 77 #[.agg #[.int .i64 r.e.acc, .int .i64 r.e.item, .int .u64 (r.e.co : Int), .int .u64 (r.e.pr : Int), .slice r.e.A r.e.n r.e.c]] w1 (BP r.e.form.length r.e.form w1)) := fun w1 hf => entryForm_any w1 r.e (h.e.quiet hf) a5 hwf.e
  have HKF : Hid (∀ w1, Fr (fun _ => False) w w1 → Calls Try.prog 78 #[.agg #[.int .i64 r.k.num, .int .i64 r.k.kind, .int .i64 r.k.by_, .int .i64 r.k.dl, .int .i64 r.k.to_, .int .i64 r.k.want, .int .u64 (r.k.pr : Int), .int .u64 (r.k.rs : Int), .int .u64 (r.k.st : Int), .int .i64 r.k.of_, .slice r.k.A r.k.n r.k.c]] w1 (BP r.k.form.length r.k.form w1)) := fun w1 hf => contractForm_any w1 r.k (h.k.quiet hf) a7 hwf.k
  have HL8 : Hid (decide (r.e.form.length = 0) = r.e.blank) := ER.form_blank a5 a6
  have HL7 : Hid (decide (r.k.form.length = 0) = r.k.blank) := CR.form_blank a7
  obtain ⟨fl8, hfl8⟩ : ∃ n, r.e.form.length = n := ⟨_, rfl⟩
  obtain ⟨fl7, hfl7⟩ : ∃ n, r.k.form.length = n := ⟨_, rfl⟩
  rw [hfl8] at HEF HL8
  rw [hfl7] at HKF HL7
  rw [a5] at HE
  rw [a7] at HK
  have n10 := okL_mem a4 (n := r.to_) (by simp)
  have n20 := okL_mem a4 (n := r.item) (by simp)
  have n30 := okL_mem a4 (n := r.num) (by simp)
  have n40 := okL_mem a4 (n := r.of_) (by simp)
  have HN1 := hide (fun w1 => rnumber_is w1 r.to_ true (okN_iff.2 n10))
  have HN2 := hide (fun w1 => rnumber_is w1 r.item true (okN_iff.2 n20))
  have HN3 := hide (fun w1 => rnumber_is w1 r.num true (okN_iff.2 n30))
  have HN4 := hide (fun w1 => rnumber_is w1 r.of_ true (okN_iff.2 n40))
  clear h hwf n10 n20 n30 n40 a4 a5 a7 hfl8 hfl7
  obtain ⟨rid, kind, name, to_, co, item, num, of_, ⟨acc, ei, ec, ep, E, en, ecp, ews⟩, ⟨knum, kkind, kby, kdl, kto, kwant, kpr, krs, kst, kof, X, xn, xc, kes⟩⟩ := r
  simp only at HE HK HEF HKF HL8 HL7 HN1 HN2 HN3 HN4 Hxn hxle hkind hfine a1 a2 a3 a6 a8 a9 a10 ⊢
  subst hkind
  rw [← (Hxn.out : xn = kes.length)] at a10
  obtain ⟨ok, hok⟩ : ∃ ok, KC.ok ⟨rid, 14, name, to_, co, item, num, of_, ⟨acc, ei, ec, ep, E, en, ecp, ews⟩, ⟨knum, kkind, kby, kdl, kto, kwant, kpr, krs, kst, kof, X, xn, xc, kes⟩⟩ = ok := ⟨_, rfl⟩
  obtain ⟨m7, hm7⟩ : ∃ b, CR.blank ⟨knum, kkind, kby, kdl, kto, kwant, kpr, krs, kst, kof, X, xn, xc, kes⟩ = b := ⟨_, rfl⟩
  obtain ⟨m8, hm8⟩ : ∃ b, ER.blank ⟨acc, ei, ec, ep, E, en, ecp, ews⟩ = b := ⟨_, rfl⟩
  obtain ⟨ef, hef⟩ : ∃ l, ER.form ⟨acc, ei, ec, ep, E, en, ecp, ews⟩ = l := ⟨_, rfl⟩
  obtain ⟨kf, hkf⟩ : ∃ l, CR.form ⟨knum, kkind, kby, kdl, kto, kwant, kpr, krs, kst, kof, X, xn, xc, kes⟩ = l := ⟨_, rfl⟩
  rw [hm7] at HL7
  rw [hm8] at HL8
  rw [hef] at HEF
  rw [hkf] at HKF
  rw [hok]
  unfold KC.ok at hok
  rw [hfine] at hok
  simp only at hok
  rw [hm7, hm8, Bool.true_and] at hok
  obtain ⟨str, hstr⟩ : ∃ str, strOf name = str := ⟨_, rfl⟩
  obtain ⟨sl, hsl⟩ : ∃ sl, name.length = sl := ⟨_, rfl⟩
  have hsz : str.size = sl := by rw [← hstr, ← hsl]; exact strOf_size name
  rw [hstr]
  have Hnm : Hid ((str = ⟨#[]⟩) = (sl = 0)) := by
    show (_ = _) = (_ = _)
    refine propext ⟨fun e => by rw [← hsz, e]; rfl, fun e => ?_⟩
    have : name = [] := List.length_eq_zero_iff.1 (by rw [hsl]; exact e)
    rw [← hstr, this]; rfl
  rw [hsl] at hok a3
  have HOK : Hid (ok = _) := hok.symm
  clear hok hm7 hm8 hef hkf hsl hstr hfine a1
  have i1 : decide (rid < 0) = false := decide_eq_false (by omega)
  have i2 : decide ((4294967295 : Int) < rid) = false := decide_eq_false (by omega)
  have i3 : decide ((128 : Int) < (sl : Int)) = false := decide_eq_false (by omega)
  have i4 : decide (128 < sl) = false := decide_eq_false (by omega)
  have i6 : (acc != 0) = false := by rw [a6]; rfl
  have i8 : (knum != 0) = false := by rw [a8]; rfl
  have i10 : (kby != 0) = false := by rw [a9]; rfl
  have i12 : (xn != 0) = false := by rw [a10]; rfl
  have i13 : ((xn : Int) != 0) = false := by rw [a10]; rfl
  clear a2 a3 a6 a8 a9 a10
  have HB0 : Hid (Bl (w.alloc (.cells #[.int .i64 rid, .int .i64 14, .string str, .int .i64 to_, .int .u64 (co : Int), .int .i64 item, .int .i64 num, .int .i64 of_, .int .i64 acc, .int .i64 ei, .int .u64 (ec : Int), .int .u64 (ep : Int), .slice E en ecp, .int .i64 knum, .int .i64 kkind, .int .i64 kby, .int .i64 kdl, .int .i64 kto, .int .i64 kwant, .int .u64 (kpr : Int), .int .u64 (krs : Int), .int .u64 (kst : Int), .int .i64 kof, .slice X xn xc] 31)) w.heap.size 31 #[.int .i64 rid, .int .i64 14, .string str, .int .i64 to_, .int .u64 (co : Int), .int .i64 item, .int .i64 num, .int .i64 of_, .int .i64 acc, .int .i64 ei, .int .u64 (ec : Int), .int .u64 (ep : Int), .slice E en ecp, .int .i64 knum, .int .i64 kkind, .int .i64 kby, .int .i64 kdl, .int .i64 kto, .int .i64 kwant, .int .u64 (kpr : Int), .int .u64 (krs : Int), .int .u64 (kst : Int), .int .i64 kof, .slice X xn xc]) := Bl.new _ _ _
  have HF0 : Hid (Fr (fun _ => False) w (w.alloc (.cells #[.int .i64 rid, .int .i64 14, .string str, .int .i64 to_, .int .u64 (co : Int), .int .i64 item, .int .i64 num, .int .i64 of_, .int .i64 acc, .int .i64 ei, .int .u64 (ec : Int), .int .u64 (ep : Int), .slice E en ecp, .int .i64 knum, .int .i64 kkind, .int .i64 kby, .int .i64 kdl, .int .i64 kto, .int .i64 kwant, .int .u64 (kpr : Int), .int .u64 (krs : Int), .int .u64 (kst : Int), .int .i64 kof, .slice X xn xc] 31))) := (Fr.refl _ _).alloc _
  have c3 := HB0.out.cell' (i := 3) rfl
  have c5 := HB0.out.cell' (i := 5) rfl
  have c6 := HB0.out.cell' (i := 6) rfl
  have c7 := HB0.out.cell' (i := 7) rfl
  have c8 := HB0.out.cell' (i := 8) rfl
  go_enter Try.func74, Try.ntmps74
  go_wp2_with fail
  refine (HN1.out _).mono ?_
  rintro x w' ⟨rfl, rfl⟩
  go_wp2_with fail
  refine (HN2.out _).mono ?_
  rintro x w' ⟨rfl, rfl⟩
  go_wp2_with fail
  refine (HN3.out _).mono ?_
  rintro x w' ⟨rfl, rfl⟩
  go_wp2_with fail
  refine (HN4.out _).mono ?_
  rintro x w' ⟨rfl, rfl⟩
  have c9 := HB0.out.cell' (i := 9) rfl
  have c10 := HB0.out.cell' (i := 10) rfl
  have c11 := HB0.out.cell' (i := 11) rfl
  have c12 := HB0.out.cell' (i := 12) rfl
  go_wp2_with fail
  refine (HE.out _ HF0.out).mono ?_
  rintro x w3 ⟨rfl, hf3⟩
  have HF3 := hide (HF0.out.trans hf3)
  have HB3 := hide (HB0.out.fr hf3 (fun x => x))
  clear hf3 HE HF0 HB0 c3 c5 c6 c7 c8 c9 c10 c11 c12
  have hb3 := HB3.out
  unfold Bl at hb3
  go_wp2_with (refine wpList_load_at rfl 29 _ rfl w.heap.size 13 rfl 31 _ #[.int .i64 knum, .int .i64 kkind, .int .i64 kby, .int .i64 kdl, .int .i64 kto, .int .i64 kwant, .int .u64 (kpr : Int), .int .u64 (krs : Int), .int .u64 (kst : Int), .int .i64 kof, .slice X xn xc] (0, 0) _ hb3 Try.underlying29 rfl (by kernel_rfl) rfl ?_)
  refine (HK.out _ HF3.out).mono ?_
  rintro x w4 ⟨rfl, hf4⟩
  have HF4 := hide (HF3.out.trans hf4)
  have HB4 := hide (HB3.out.fr hf4 (fun x => x))
  clear hf4 HF3 HB3 HK hb3
  have c1 := HB4.out.cell' (i := 1) rfl
  have c2 := HB4.out.cell' (i := 2) rfl
  have c3 := HB4.out.cell' (i := 3) rfl
  have c4 := HB4.out.cell' (i := 4) rfl
  have c5 := HB4.out.cell' (i := 5) rfl
  have c6 := HB4.out.cell' (i := 6) rfl
  have c7 := HB4.out.cell' (i := 7) rfl
  have c13 := HB4.out.cell' (i := 13) rfl
  have c15 := HB4.out.cell' (i := 15) rfl
  have c23 := HB4.out.cell' (i := 23) rfl
  go_upto_region 9 with fail
  go_cut [1, 4, 98] (fun s1 s4 sv wx => s1 = .pointer (some ⟨w.heap.size, 0, none⟩) ∧ s4 = .int .i64 14 ∧ sv = .bool false ∧ wx = w4)
  case first =>
    by_cases e0 : sl = 0
    · skip
      have n1 : str.toList.isEmpty = true := by
        rw [← decide_eq_emptyBytes]
        exact decide_eq_true (Hnm.out.symm ▸ e0 : str = ⟨#[]⟩)
      clear e0
      go_wp2_with fail
      go_meet
      case rel => exact ⟨rfl, rfl, rfl, rfl⟩
    · skip
      have n1 : str.toList.isEmpty = false := by
        rw [← decide_eq_emptyBytes]
        exact decide_eq_false fun e => e0 (Hnm.out ▸ e)
      clear e0
      go_wp2_with fail
      go_meet
      case rel => exact ⟨rfl, rfl, rfl, rfl⟩
  case rest =>
  obtain ⟨rfl, rfl, rfl, hwc⟩ := hcut
  obtain rfl := hwc.symm
  have V1 : Hid ((inK [1, 14] 14 || decide (sl = 0)) = true) := rfl
  by_cases e0 : to_ = 0
  rotate_left
  · have V : Hid ((inK [2, 3, 4, 5, 9, 10] 14 || decide (to_ = 0)) = false) := by
      show _ = _
      rw [decide_eq_false e0]; rfl
    have n2 : (to_ != 0) = true := by simpa using e0
    clear e0
    go_wp2_with fail
    go_ret
    have hr : ok = false := by rw [HOK.out]; simp only [V1.out, V.out, Bool.and_true, Bool.true_and, Bool.and_false, Bool.false_and]
    exact ⟨by rw [hr]; rfl, HF4.out⟩
  have V2 : Hid ((inK [2, 3, 4, 5, 9, 10] 14 || decide (to_ = 0)) = true) := by
    show _ = _
    rw [decide_eq_true e0]; rfl
  have n21 : (to_ != 0) = false := by rw [e0]; rfl
  clear e0
  by_cases e0 : co = 0
  rotate_left
  · have V : Hid ((inK [2, 4] 14 || decide (co = 0)) = false) := by
      show _ = _
      rw [decide_eq_false e0]; rfl
    have n2 : (co != 0) = true := by simpa using e0
    have n1 : ((co : Int) != 0) = true := by simpa using e0
    clear e0
    go_wp2_with fail
    go_ret
    have hr : ok = false := by rw [HOK.out]; simp only [V1.out, V2.out, V.out, Bool.and_true, Bool.true_and, Bool.and_false, Bool.false_and]
    exact ⟨by rw [hr]; rfl, HF4.out⟩
  have V3 : Hid ((inK [2, 4] 14 || decide (co = 0)) = true) := by
    show _ = _
    rw [decide_eq_true e0]; rfl
  have n22 : (co != 0) = false := by rw [e0]; rfl
  have n12 : ((co : Int) != 0) = false := by rw [e0]; rfl
  clear e0
  by_cases e0 : item = 0
  rotate_left
  · have V : Hid ((inK [5, 11] 14 || decide (item = 0)) = false) := by
      show _ = _
      rw [decide_eq_false e0]; rfl
    have n2 : (item != 0) = true := by simpa using e0
    clear e0
    go_wp2_with fail
    go_ret
    have hr : ok = false := by rw [HOK.out]; simp only [V1.out, V2.out, V3.out, V.out, Bool.and_true, Bool.true_and, Bool.and_false, Bool.false_and]
    exact ⟨by rw [hr]; rfl, HF4.out⟩
  have V4 : Hid ((inK [5, 11] 14 || decide (item = 0)) = true) := by
    show _ = _
    rw [decide_eq_true e0]; rfl
  have n23 : (item != 0) = false := by rw [e0]; rfl
  clear e0
  by_cases e0 : num = 0
  rotate_left
  · have V : Hid ((inK [7, 8, 12] 14 || decide (num = 0)) = false) := by
      show _ = _
      rw [decide_eq_false e0]; rfl
    have n2 : (num != 0) = true := by simpa using e0
    clear e0
    go_wp2_with fail
    go_ret
    have hr : ok = false := by rw [HOK.out]; simp only [V1.out, V2.out, V3.out, V4.out, V.out, Bool.and_true, Bool.true_and, Bool.and_false, Bool.false_and]
    exact ⟨by rw [hr]; rfl, HF4.out⟩
  have V5 : Hid ((inK [7, 8, 12] 14 || decide (num = 0)) = true) := by
    show _ = _
    rw [decide_eq_true e0]; rfl
  have n24 : (num != 0) = false := by rw [e0]; rfl
  clear e0
  by_cases e0 : of_ = 0
  rotate_left
  · have V : Hid ((inK [3, 13] 14 || decide (of_ = 0)) = false) := by
      show _ = _
      rw [decide_eq_false e0]; rfl
    have n2 : (of_ != 0) = true := by simpa using e0
    clear e0
    go_wp2_with fail
    go_ret
    have hr : ok = false := by rw [HOK.out]; simp only [V1.out, V2.out, V3.out, V4.out, V5.out, V.out, Bool.and_true, Bool.true_and, Bool.and_false, Bool.false_and]
    exact ⟨by rw [hr]; rfl, HF4.out⟩
  have V6 : Hid ((inK [3, 13] 14 || decide (of_ = 0)) = true) := by
    show _ = _
    rw [decide_eq_true e0]; rfl
  have n25 : (of_ != 0) = false := by rw [e0]; rfl
  clear e0
  have c8 := HB4.out.cell' (i := 8) rfl
  have c9 := HB4.out.cell' (i := 9) rfl
  have c10 := HB4.out.cell' (i := 10) rfl
  have c11 := HB4.out.cell' (i := 11) rfl
  have c12 := HB4.out.cell' (i := 12) rfl
  go_wp2_with fail
  refine (HEF.out w4 HF4.out).mono ?_
  rintro x w5 ⟨X5, c5', g5, rfl, -, -, hf5⟩
  have HF5 := hide (HF4.out.trans hf5)
  have HB5 := hide (HB4.out.fr hf5 (fun x => x))
  clear hf5 HB4 c1 c2 c3 c4 c5 c6 c7 c8 c9 c10 c11 c12 c13 c15 c23
  have hb5 := HB5.out
  unfold Bl at hb5
  by_cases e0 : fl8 = 0
  · skip
    have n1 : ((fl8 : Int) != 0) = false := by rw [e0]; rfl
    have n2 : (fl8 != 0) = false := by rw [e0]; rfl
    have M8 : Hid (m8 = true) := by show m8 = _; rw [← HL8.out]; simp [e0]
    clear e0
    go_wp2_with (refine wpList_load_at rfl 29 _ rfl w.heap.size 13 rfl 31 _ #[.int .i64 knum, .int .i64 kkind, .int .i64 kby, .int .i64 kdl, .int .i64 kto, .int .i64 kwant, .int .u64 (kpr : Int), .int .u64 (krs : Int), .int .u64 (kst : Int), .int .i64 kof, .slice X xn xc] (0, 0) _ hb5 Try.underlying29 rfl (by kernel_rfl) rfl ?_)
    refine (HKF.out w5 HF5.out).mono ?_
    rintro x w6 ⟨X6, c6', g6, rfl, -, -, hf6⟩
    have HF6 := hide (HF5.out.trans hf6)
    clear hf6 hb5
    by_cases e1 : fl7 = 0
    · have M7 : Hid (m7 = true) := by show m7 = _; rw [← HL7.out]; simp [e1]
      have n3 : ((fl7 : Int) == 0) = true := by rw [e1]; rfl
      have E1 := hide e1
      have hr : Hid (ok = true) := by show ok = _; rw [HOK.out]; simp only [V1.out, V2.out, V3.out, V4.out, V5.out, V6.out, M8.out, M7.out]; rfl
      go_wp2_with fail
      go_ret
      exact ⟨by rw [hr.out]; rfl, HF6.out⟩
    · have M7 : Hid (m7 = false) := by show m7 = _; rw [← HL7.out]; simp [e1]
      have n3 : ((fl7 : Int) == 0) = false := by simpa using e1
      have n4 : (fl7 == 0) = false := by simpa using e1
      have n5 : ¬ fl7 = 0 := e1
      have hr : Hid (ok = false) := by show ok = _; rw [HOK.out]; simp only [V1.out, V2.out, V3.out, V4.out, V5.out, V6.out, M8.out, M7.out]; rfl
      clear e1
      go_wp2_with fail
      go_ret
      exact ⟨by rw [hr.out]; rfl, HF6.out⟩
  · skip
    have n1 : ((fl8 : Int) != 0) = true := by simpa using e0
    have n2 : (fl8 != 0) = true := by simpa using e0
    have M8 : Hid (m8 = false) := by show m8 = _; rw [← HL8.out]; simp [e0]
    clear e0
    have hr : Hid (ok = false) := by
      show ok = _
      rw [HOK.out]
      simp only [V1.out, V2.out, V3.out, V4.out, V5.out, V6.out, M8.out]
      cases m7 <;> rfl
    go_wp2_with fail
    go_ret
    exact ⟨by rw [hr.out]; rfl, HF5.out⟩
end Go.Proofs.Ytlcjhbemgagchaa
