/-
  Texts merged into one, to keep the claim small: PrK4.
-/
import Derived.Test.YtlcjhbemgagchaaMc33
import Derived.Test.YtlcjhbemgagchaaMc19
import Derived.Test.YtlcjhbemgagchaaMc14
/-
  proto: command (may it be?). (printed by pr_cmd.py)
-/
namespace Go.Proofs.Ytlcjhbemgagchaa
open Go.RowKit
set_option linter.unusedVariables false
set_option linter.unusedSimpArgs false
theorem bit_1 {k : Int} (h : 1 ≤ k ∧ k ≤ 14) : (bits .and .i64 (hasI k) 1 != 0) = inK [1, 14] k := kind_cases h (fun k => (bits .and .i64 (hasI k) 1 != 0) = inK [1, 14] k) (by kernel_rfl) (by kernel_rfl) (by kernel_rfl) (by kernel_rfl) (by kernel_rfl) (by kernel_rfl) (by kernel_rfl) (by kernel_rfl) (by kernel_rfl) (by kernel_rfl) (by kernel_rfl) (by kernel_rfl) (by kernel_rfl) (by kernel_rfl)
theorem bit_2 {k : Int} (h : 1 ≤ k ∧ k ≤ 14) : (bits .and .i64 (hasI k) 2 != 0) = inK [2, 3, 4, 5, 9, 10] k := kind_cases h (fun k => (bits .and .i64 (hasI k) 2 != 0) = inK [2, 3, 4, 5, 9, 10] k) (by kernel_rfl) (by kernel_rfl) (by kernel_rfl) (by kernel_rfl) (by kernel_rfl) (by kernel_rfl) (by kernel_rfl) (by kernel_rfl) (by kernel_rfl) (by kernel_rfl) (by kernel_rfl) (by kernel_rfl) (by kernel_rfl) (by kernel_rfl)
theorem bit_4 {k : Int} (h : 1 ≤ k ∧ k ≤ 14) : (bits .and .i64 (hasI k) 4 != 0) = inK [2, 4] k := kind_cases h (fun k => (bits .and .i64 (hasI k) 4 != 0) = inK [2, 4] k) (by kernel_rfl) (by kernel_rfl) (by kernel_rfl) (by kernel_rfl) (by kernel_rfl) (by kernel_rfl) (by kernel_rfl) (by kernel_rfl) (by kernel_rfl) (by kernel_rfl) (by kernel_rfl) (by kernel_rfl) (by kernel_rfl) (by kernel_rfl)
theorem bit_8 {k : Int} (h : 1 ≤ k ∧ k ≤ 14) : (bits .and .i64 (hasI k) 8 != 0) = inK [5, 11] k := kind_cases h (fun k => (bits .and .i64 (hasI k) 8 != 0) = inK [5, 11] k) (by kernel_rfl) (by kernel_rfl) (by kernel_rfl) (by kernel_rfl) (by kernel_rfl) (by kernel_rfl) (by kernel_rfl) (by kernel_rfl) (by kernel_rfl) (by kernel_rfl) (by kernel_rfl) (by kernel_rfl) (by kernel_rfl) (by kernel_rfl)
theorem bit_16 {k : Int} (h : 1 ≤ k ∧ k ≤ 14) : (bits .and .i64 (hasI k) 16 != 0) = inK [7, 8, 12] k := kind_cases h (fun k => (bits .and .i64 (hasI k) 16 != 0) = inK [7, 8, 12] k) (by kernel_rfl) (by kernel_rfl) (by kernel_rfl) (by kernel_rfl) (by kernel_rfl) (by kernel_rfl) (by kernel_rfl) (by kernel_rfl) (by kernel_rfl) (by kernel_rfl) (by kernel_rfl) (by kernel_rfl) (by kernel_rfl) (by kernel_rfl)
theorem bit_32 {k : Int} (h : 1 ≤ k ∧ k ≤ 14) : (bits .and .i64 (hasI k) 32 != 0) = inK [3, 13] k := kind_cases h (fun k => (bits .and .i64 (hasI k) 32 != 0) = inK [3, 13] k) (by kernel_rfl) (by kernel_rfl) (by kernel_rfl) (by kernel_rfl) (by kernel_rfl) (by kernel_rfl) (by kernel_rfl) (by kernel_rfl) (by kernel_rfl) (by kernel_rfl) (by kernel_rfl) (by kernel_rfl) (by kernel_rfl) (by kernel_rfl)
theorem bit_128 {k : Int} (h : 1 ≤ k ∧ k ≤ 14) : (bits .and .i64 (hasI k) 128 != 0) = inK [6] k := kind_cases h (fun k => (bits .and .i64 (hasI k) 128 != 0) = inK [6] k) (by kernel_rfl) (by kernel_rfl) (by kernel_rfl) (by kernel_rfl) (by kernel_rfl) (by kernel_rfl) (by kernel_rfl) (by kernel_rfl) (by kernel_rfl) (by kernel_rfl) (by kernel_rfl) (by kernel_rfl) (by kernel_rfl) (by kernel_rfl)
theorem bit_64 {k : Int} (h : 1 ≤ k ∧ k ≤ 14) : (bits .and .i64 (hasI k) 64 != 0) = inK [6, 7] k := kind_cases h (fun k => (bits .and .i64 (hasI k) 64 != 0) = inK [6, 7] k) (by kernel_rfl) (by kernel_rfl) (by kernel_rfl) (by kernel_rfl) (by kernel_rfl) (by kernel_rfl) (by kernel_rfl) (by kernel_rfl) (by kernel_rfl) (by kernel_rfl) (by kernel_rfl) (by kernel_rfl) (by kernel_rfl) (by kernel_rfl)
theorem hasI_ne {k : Int} (h : 1 ≤ k ∧ k ≤ 14) : hasI k ≠ 0 := kind_cases h (fun k => hasI k ≠ 0) (by decide) (by decide) (by decide) (by decide) (by decide) (by decide) (by decide) (by decide) (by decide) (by decide) (by decide) (by decide) (by decide) (by decide)
theorem hasI_zero {k : Int} (h : ¬ (1 ≤ k ∧ k ≤ 14)) : hasI k = 0 := by
  by_cases h0 : k = 0
  · subst h0; rfl
  · exact (hasI_none (by omega)).1
set_option maxHeartbeats 16000000 in
set_option maxRecDepth 8000 in
theorem command_any (w : World) (r : KC) (h : r.at_ w) :
    Calls Try.prog 56 #[.agg #[.int .i64 r.id, .int .i64 r.kind, .string (strOf r.name), .int .i64 r.to_, .int .u64 (r.co : Int), .int .i64 r.item, .int .i64 r.num, .int .i64 r.of_, .int .i64 r.e.acc, .int .i64 r.e.item, .int .u64 (r.e.co : Int), .int .u64 (r.e.pr : Int), .slice r.e.A r.e.n r.e.c, .int .i64 r.k.num, .int .i64 r.k.kind, .int .i64 r.k.by_, .int .i64 r.k.dl, .int .i64 r.k.to_, .int .i64 r.k.want, .int .u64 (r.k.pr : Int), .int .u64 (r.k.rs : Int), .int .u64 (r.k.st : Int), .int .i64 r.k.of_, .slice r.k.A r.k.n r.k.c]] w fun e w' => e = .returned (.bool r.ok) ∧ Fr (fun _ => False) w w' := by
  have HE : Hid (∀ w1, Fr (fun _ => False) w w1 → Calls Try.prog 105 #[.agg #[.int .i64 r.e.acc, .int .i64 r.e.item, .int .u64 (r.e.co : Int), .int .u64 (r.e.pr : Int), .slice r.e.A r.e.n r.e.c]] w1 fun e w' => e = .returned (.bool r.e.ok) ∧ Fr (fun _ => False) w1 w') := fun w1 hf => entry_any w1 r.e (h.e.quiet hf)
  have HK : Hid (∀ w1, Fr (fun _ => False) w w1 → Calls Try.prog 106 #[.agg #[.int .i64 r.k.num, .int .i64 r.k.kind, .int .i64 r.k.by_, .int .i64 r.k.dl, .int .i64 r.k.to_, .int .i64 r.k.want, .int .u64 (r.k.pr : Int), .int .u64 (r.k.rs : Int), .int .u64 (r.k.st : Int), .int .i64 r.k.of_, .slice r.k.A r.k.n r.k.c]] w1 fun e w' => e = .returned (.bool r.k.ok) ∧ Fr (fun _ => False) w1 w') := fun w1 hf => contract_any w1 r.k (h.k.quiet hf)
  have HKB : Hid (∀ w1, r.k.ok = true → Calls Try.prog 107 #[.agg #[.int .i64 r.k.num, .int .i64 r.k.kind, .int .i64 r.k.by_, .int .i64 r.k.dl, .int .i64 r.k.to_, .int .i64 r.k.want, .int .u64 (r.k.pr : Int), .int .u64 (r.k.rs : Int), .int .u64 (r.k.st : Int), .int .i64 r.k.of_, .slice r.k.A r.k.n r.k.c]] w1 fun e w' => e = .returned (.bool r.k.blank) ∧ Fr (fun _ => False) w1 w') := fun w1 hok => blank_any w1 r.k hok h.k.len
  have HC := hide (fun w1 => of_any w1 r.kind)
  have Hen : Hid (r.e.n = r.e.ws.length) := h.e.sl.ilen
  have Hxn : Hid (r.k.n = r.k.es.length) := h.k.len
  have hxle := h.k.le
  have hele := h.e.le
  clear h
  obtain ⟨rid, kind, name, to_, co, item, num, of_, ⟨acc, ei, ec, ep, E, en, ecp, ews⟩, ⟨knum, kkind, kby, kdl, kto, kwant, kpr, krs, kst, kof, X, xn, xc, kes⟩⟩ := r
  simp only at HE HK HKB HC Hen Hxn hxle hele ⊢
  obtain ⟨ok, hok⟩ : ∃ ok, KC.ok ⟨rid, kind, name, to_, co, item, num, of_, ⟨acc, ei, ec, ep, E, en, ecp, ews⟩, ⟨knum, kkind, kby, kdl, kto, kwant, kpr, krs, kst, kof, X, xn, xc, kes⟩⟩ = ok := ⟨_, rfl⟩
  obtain ⟨eok, heok⟩ : ∃ b, ER.ok ⟨acc, ei, ec, ep, E, en, ecp, ews⟩ = b := ⟨_, rfl⟩
  obtain ⟨kok, hkok⟩ : ∃ b, CR.ok ⟨knum, kkind, kby, kdl, kto, kwant, kpr, krs, kst, kof, X, xn, xc, kes⟩ = b := ⟨_, rfl⟩
  obtain ⟨m7, hm7⟩ : ∃ b, CR.blank ⟨knum, kkind, kby, kdl, kto, kwant, kpr, krs, kst, kof, X, xn, xc, kes⟩ = b := ⟨_, rfl⟩
  obtain ⟨m8, hm8⟩ : ∃ b, ER.blank ⟨acc, ei, ec, ep, E, en, ecp, ews⟩ = b := ⟨_, rfl⟩
  rw [heok] at HE
  rw [hkok] at HK HKB
  rw [hm7] at HKB
  rw [hok]
  unfold KC.ok KC.fine at hok
  simp only at hok
  rw [heok, hkok, hm7, hm8, ← (Hxn.out : xn = kes.length)] at hok
  obtain ⟨m1, hm1⟩ : ∃ b, decide (name.length = 0) = b := ⟨_, rfl⟩
  obtain ⟨m2, hm2⟩ : ∃ b, decide (to_ = 0) = b := ⟨_, rfl⟩
  obtain ⟨m3, hm3⟩ : ∃ b, decide (co = 0) = b := ⟨_, rfl⟩
  obtain ⟨m4, hm4⟩ : ∃ b, decide (item = 0) = b := ⟨_, rfl⟩
  obtain ⟨m5, hm5⟩ : ∃ b, decide (num = 0) = b := ⟨_, rfl⟩
  obtain ⟨m6, hm6⟩ : ∃ b, decide (of_ = 0) = b := ⟨_, rfl⟩
  obtain ⟨b1, hb1⟩ : ∃ b, inK [1, 14] kind = b := ⟨_, rfl⟩
  obtain ⟨b2, hb2⟩ : ∃ b, inK [2, 3, 4, 5, 9, 10] kind = b := ⟨_, rfl⟩
  obtain ⟨b3, hb3⟩ : ∃ b, inK [2, 4] kind = b := ⟨_, rfl⟩
  obtain ⟨b4, hb4⟩ : ∃ b, inK [5, 11] kind = b := ⟨_, rfl⟩
  obtain ⟨b5, hb5⟩ : ∃ b, inK [7, 8, 12] kind = b := ⟨_, rfl⟩
  obtain ⟨b6, hb6⟩ : ∃ b, inK [3, 13] kind = b := ⟨_, rfl⟩
  obtain ⟨b7, hb7⟩ : ∃ b, inK [6] kind = b := ⟨_, rfl⟩
  obtain ⟨b8, hb8⟩ : ∃ b, inK [6, 7] kind = b := ⟨_, rfl⟩
  rw [hm1, hm2, hm3, hm4, hm5, hm6, hb1, hb2, hb3, hb4, hb5, hb6, hb7, hb8] at hok
  have HOK := hide hok.symm
  have HM8 : Hid (m8 = (decide (ei = 0) && decide (ec = 0) && decide (ep = 0) && decide (en = 0))) := by
    show m8 = _
    rw [← hm8]
    show ER.blank _ = _
    unfold ER.blank
    simp only
    rw [(Hen.out : en = ews.length)]
  have M1 := hide hm1
  have M2 := hide hm2
  have M3 := hide hm3
  have M4 := hide hm4
  have M5 := hide hm5
  have M6 := hide hm6
  obtain ⟨str, hstr⟩ : ∃ str, strOf name = str := ⟨_, rfl⟩
  obtain ⟨sl, hsl⟩ : ∃ sl, name.length = sl := ⟨_, rfl⟩
  have hsz : str.size = sl := by rw [← hstr, ← hsl]; exact strOf_size name
  rw [hstr]
  have Hnm : Hid ((str = ⟨#[]⟩) = (sl = 0)) := by
    show (_ = _) = (_ = _)
    refine propext ⟨fun e => by rw [← hsz, e]; rfl, fun e => ?_⟩
    have : name = [] := List.length_eq_zero_iff.1 (by rw [hsl]; exact e)
    rw [← hstr, this]; rfl
  rw [hsl] at hok hm1
  have HOK : Hid (ok = _) := hok.symm
  have M1 := hide hm1
  have BT : Hid (1 ≤ kind ∧ kind ≤ 14 → ((bits .and .i64 (hasI kind) 1 != 0) = b1 ∧ (bits .and .i64 (hasI kind) 2 != 0) = b2 ∧ (bits .and .i64 (hasI kind) 4 != 0) = b3 ∧ (bits .and .i64 (hasI kind) 8 != 0) = b4 ∧ (bits .and .i64 (hasI kind) 16 != 0) = b5 ∧ (bits .and .i64 (hasI kind) 32 != 0) = b6 ∧ (bits .and .i64 (hasI kind) 128 != 0) = b7 ∧ (bits .and .i64 (hasI kind) 64 != 0) = b8)) := fun hk =>
    ⟨(bit_1 hk).trans hb1, (bit_2 hk).trans hb2, (bit_4 hk).trans hb3, (bit_8 hk).trans hb4, (bit_16 hk).trans hb5, (bit_32 hk).trans hb6, (bit_128 hk).trans hb7, (bit_64 hk).trans hb8⟩
  have Hne : Hid (hasI kind = 0 ∨ 1 ≤ kind ∧ kind ≤ 14) := by
    show _ ∨ _
    by_cases hk : 1 ≤ kind ∧ kind ≤ 14
    · exact .inr hk
    · exact .inl (hasI_zero hk)
  have Hne2 : Hid (1 ≤ kind ∧ kind ≤ 14 → hasI kind ≠ 0) := hasI_ne
  obtain ⟨cv, hcv⟩ : ∃ cv, costI kind = cv := ⟨_, rfl⟩
  obtain ⟨hv, hhv⟩ : ∃ hv, hasI kind = hv := ⟨_, rfl⟩
  rw [hcv, hhv] at HC
  rw [hhv] at BT Hne Hne2
  have HB0 : Hid (Bl (w.alloc (.cells #[.int .i64 rid, .int .i64 kind, .string str, .int .i64 to_, .int .u64 (co : Int), .int .i64 item, .int .i64 num, .int .i64 of_, .int .i64 acc, .int .i64 ei, .int .u64 (ec : Int), .int .u64 (ep : Int), .slice E en ecp, .int .i64 knum, .int .i64 kkind, .int .i64 kby, .int .i64 kdl, .int .i64 kto, .int .i64 kwant, .int .u64 (kpr : Int), .int .u64 (krs : Int), .int .u64 (kst : Int), .int .i64 kof, .slice X xn xc] tCmd)) w.heap.size tCmd #[.int .i64 rid, .int .i64 kind, .string str, .int .i64 to_, .int .u64 (co : Int), .int .i64 item, .int .i64 num, .int .i64 of_, .int .i64 acc, .int .i64 ei, .int .u64 (ec : Int), .int .u64 (ep : Int), .slice E en ecp, .int .i64 knum, .int .i64 kkind, .int .i64 kby, .int .i64 kdl, .int .i64 kto, .int .i64 kwant, .int .u64 (kpr : Int), .int .u64 (krs : Int), .int .u64 (kst : Int), .int .i64 kof, .slice X xn xc]) := Bl.new _ _ _
  have hfd := fun w => field_1 cv hv w
  clear hok heok hkok hm1 hm2 hm3 hm4 hm5 hm6 hm7 hm8 hb1 hb2 hb3 hb4 hb5 hb6 hb7 hb8 hcv hhv hsl hstr
  by_cases hk : 1 ≤ kind ∧ kind ≤ 14
  rotate_left
  · have hv0 : hv = 0 := by
      rcases Hne.out with h | h
      · exact h
      · exact absurd h hk
    subst hv0
    have Q0 : Hid ((decide (1 ≤ kind) && decide (kind ≤ 14)) = false) := by
      show _ = _
      by_cases h1 : 1 ≤ kind
      · rw [decide_eq_false (p := kind ≤ 14) (by omega), Bool.and_false]
      · rw [decide_eq_false (p := 1 ≤ kind) h1, Bool.false_and]
    clear hk
    go_enter Try.func56, Try.ntmps56
    go_wp2_with fail
    refine (HC.out _).mono ?_
    rintro x w1 ⟨rfl, hf1⟩
    have HF1 : Hid (Fr (fun _ => False) w w1) := Fr.trans (by (repeat (first | with_reducible exact Fr.refl _ _ | with_reducible assumption | with_reducible refine Fr.drew ?_ | with_reducible refine Fr.drewN ?_ _ | with_reducible refine Fr.alloc ?_ _ | with_reducible refine Fr.setIn ?_ (by first | exact Or.inl rfl | exact Or.inr (by simp; done) | exact Or.inr (by simp; omega) | exact Or.inr (by omega)) _))) hf1
    have hB := HB0.out.fr hf1 (fun x => x)
    have hBA := hB.alloc (.cells #[.int .i64 0] 3)
    have hBB := hBA.alloc (.cells #[.int .i64 acc, .int .i64 ei, .int .u64 (ec : Int), .int .u64 (ep : Int), .slice E en ecp] tEnt)
    have z0 : Bl ((w1.alloc (.cells #[.int .i64 0] 3)).alloc (.cells #[.int .i64 acc, .int .i64 ei, .int .u64 (ec : Int), .int .u64 (ep : Int), .slice E en ecp] tEnt)) w1.heap.size 3 #[.int .i64 0] := (Bl.new _ _ _).alloc _
    have zh := z0.cell' (i := 0) rfl
    have HBB := hide hBB
    have HZ0 := hide z0
    have a8 := hBA.cell' (i := 8) rfl
    have a9 := hBA.cell' (i := 9) rfl
    have a10 := hBA.cell' (i := 10) rfl
    have a11 := hBA.cell' (i := 11) rfl
    have a12 := hBA.cell' (i := 12) rfl
    have a0 := hBB.cell' (i := 0) rfl
    have a2 := hBB.cell' (i := 2) rfl
    have a3 := hBB.cell' (i := 3) rfl
    have a5 := hBB.cell' (i := 5) rfl
    have a6 := hBB.cell' (i := 6) rfl
    have a7 := hBB.cell' (i := 7) rfl
    have HFB : Hid (Fr (fun _ => False) w ((w1.alloc (.cells #[.int .i64 0] 3)).alloc (.cells #[.int .i64 acc, .int .i64 ei, .int .u64 (ec : Int), .int .u64 (ep : Int), .slice E en ecp] tEnt))) := (HF1.out.alloc _).alloc _
    clear hf1 hB hBA hBB z0
    go_wp2_with fail
    go_ret
    have hr : ok = false := by rw [HOK.out]; simp only [Q0.out, Bool.and_true, Bool.true_and, Bool.and_false, Bool.false_and]
    exact ⟨by rw [hr]; rfl, HFB.out⟩
  have Q0 : Hid ((decide (1 ≤ kind) && decide (kind ≤ 14)) = true) := by
    show _ = _
    rw [decide_eq_true hk.1, decide_eq_true hk.2]; rfl
  have hv0 : (hv == 0) = false := by
    have h9 := Hne2.out hk
    simpa using h9
  have BT := hide (BT.out hk)
  clear hk Hne Hne2
  by_cases h0 : 0 ≤ rid
  rotate_left
  · skip
    have Q1 : Hid (decide (0 ≤ rid) = false) := decide_eq_false h0
    have i1 : decide (rid < 0) = true := decide_eq_true (by omega)
    clear h0
    go_enter Try.func56, Try.ntmps56
    go_wp2_with fail
    refine (HC.out _).mono ?_
    rintro x w1 ⟨rfl, hf1⟩
    have HF1 : Hid (Fr (fun _ => False) w w1) := Fr.trans (by (repeat (first | with_reducible exact Fr.refl _ _ | with_reducible assumption | with_reducible refine Fr.drew ?_ | with_reducible refine Fr.drewN ?_ _ | with_reducible refine Fr.alloc ?_ _ | with_reducible refine Fr.setIn ?_ (by first | exact Or.inl rfl | exact Or.inr (by simp; done) | exact Or.inr (by simp; omega) | exact Or.inr (by omega)) _))) hf1
    have hB := HB0.out.fr hf1 (fun x => x)
    have hBA := hB.alloc (.cells #[.int .i64 hv] 3)
    have hBB := hBA.alloc (.cells #[.int .i64 acc, .int .i64 ei, .int .u64 (ec : Int), .int .u64 (ep : Int), .slice E en ecp] tEnt)
    have z0 : Bl ((w1.alloc (.cells #[.int .i64 hv] 3)).alloc (.cells #[.int .i64 acc, .int .i64 ei, .int .u64 (ec : Int), .int .u64 (ep : Int), .slice E en ecp] tEnt)) w1.heap.size 3 #[.int .i64 hv] := (Bl.new _ _ _).alloc _
    have zh := z0.cell' (i := 0) rfl
    have HBB := hide hBB
    have HZ0 := hide z0
    have a8 := hBA.cell' (i := 8) rfl
    have a9 := hBA.cell' (i := 9) rfl
    have a10 := hBA.cell' (i := 10) rfl
    have a11 := hBA.cell' (i := 11) rfl
    have a12 := hBA.cell' (i := 12) rfl
    have a0 := hBB.cell' (i := 0) rfl
    have a2 := hBB.cell' (i := 2) rfl
    have a3 := hBB.cell' (i := 3) rfl
    have a5 := hBB.cell' (i := 5) rfl
    have a6 := hBB.cell' (i := 6) rfl
    have a7 := hBB.cell' (i := 7) rfl
    have HFB : Hid (Fr (fun _ => False) w ((w1.alloc (.cells #[.int .i64 hv] 3)).alloc (.cells #[.int .i64 acc, .int .i64 ei, .int .u64 (ec : Int), .int .u64 (ep : Int), .slice E en ecp] tEnt))) := (HF1.out.alloc _).alloc _
    clear hf1 hB hBA hBB z0
    go_wp2_with fail
    go_ret
    have hr : ok = false := by rw [HOK.out]; simp only [Q0.out, Q1.out, Bool.and_true, Bool.true_and, Bool.and_false, Bool.false_and]
    exact ⟨by rw [hr]; rfl, HFB.out⟩
  have Q1 : Hid (decide (0 ≤ rid) = true) := decide_eq_true h0
  have i1 : decide (rid < 0) = false := decide_eq_false (by omega)
  clear h0
  by_cases h0 : rid ≤ 4294967295
  rotate_left
  · skip
    have Q2 : Hid (decide (rid ≤ 4294967295) = false) := decide_eq_false h0
    have i2 : decide ((4294967295 : Int) < rid) = true := decide_eq_true (by omega)
    clear h0
    go_enter Try.func56, Try.ntmps56
    go_wp2_with fail
    refine (HC.out _).mono ?_
    rintro x w1 ⟨rfl, hf1⟩
    have HF1 : Hid (Fr (fun _ => False) w w1) := Fr.trans (by (repeat (first | with_reducible exact Fr.refl _ _ | with_reducible assumption | with_reducible refine Fr.drew ?_ | with_reducible refine Fr.drewN ?_ _ | with_reducible refine Fr.alloc ?_ _ | with_reducible refine Fr.setIn ?_ (by first | exact Or.inl rfl | exact Or.inr (by simp; done) | exact Or.inr (by simp; omega) | exact Or.inr (by omega)) _))) hf1
    have hB := HB0.out.fr hf1 (fun x => x)
    have hBA := hB.alloc (.cells #[.int .i64 hv] 3)
    have hBB := hBA.alloc (.cells #[.int .i64 acc, .int .i64 ei, .int .u64 (ec : Int), .int .u64 (ep : Int), .slice E en ecp] tEnt)
    have z0 : Bl ((w1.alloc (.cells #[.int .i64 hv] 3)).alloc (.cells #[.int .i64 acc, .int .i64 ei, .int .u64 (ec : Int), .int .u64 (ep : Int), .slice E en ecp] tEnt)) w1.heap.size 3 #[.int .i64 hv] := (Bl.new _ _ _).alloc _
    have zh := z0.cell' (i := 0) rfl
    have HBB := hide hBB
    have HZ0 := hide z0
    have a8 := hBA.cell' (i := 8) rfl
    have a9 := hBA.cell' (i := 9) rfl
    have a10 := hBA.cell' (i := 10) rfl
    have a11 := hBA.cell' (i := 11) rfl
    have a12 := hBA.cell' (i := 12) rfl
    have a0 := hBB.cell' (i := 0) rfl
    have a2 := hBB.cell' (i := 2) rfl
    have a3 := hBB.cell' (i := 3) rfl
    have a5 := hBB.cell' (i := 5) rfl
    have a6 := hBB.cell' (i := 6) rfl
    have a7 := hBB.cell' (i := 7) rfl
    have HFB : Hid (Fr (fun _ => False) w ((w1.alloc (.cells #[.int .i64 hv] 3)).alloc (.cells #[.int .i64 acc, .int .i64 ei, .int .u64 (ec : Int), .int .u64 (ep : Int), .slice E en ecp] tEnt))) := (HF1.out.alloc _).alloc _
    clear hf1 hB hBA hBB z0
    go_wp2_with fail
    go_ret
    have hr : ok = false := by rw [HOK.out]; simp only [Q0.out, Q1.out, Q2.out, Bool.and_true, Bool.true_and, Bool.and_false, Bool.false_and]
    exact ⟨by rw [hr]; rfl, HFB.out⟩
  have Q2 : Hid (decide (rid ≤ 4294967295) = true) := decide_eq_true h0
  have i2 : decide ((4294967295 : Int) < rid) = false := decide_eq_false (by omega)
  clear h0
  by_cases h0 : sl ≤ 128
  rotate_left
  · skip
    have Q3 : Hid (decide (sl ≤ 128) = false) := decide_eq_false h0
    have i3 : decide ((128 : Int) < (sl : Int)) = true := decide_eq_true (by omega)
    have i4 : decide (128 < sl) = true := decide_eq_true (by omega)
    clear h0
    go_enter Try.func56, Try.ntmps56
    go_wp2_with fail
    refine (HC.out _).mono ?_
    rintro x w1 ⟨rfl, hf1⟩
    have HF1 : Hid (Fr (fun _ => False) w w1) := Fr.trans (by (repeat (first | with_reducible exact Fr.refl _ _ | with_reducible assumption | with_reducible refine Fr.drew ?_ | with_reducible refine Fr.drewN ?_ _ | with_reducible refine Fr.alloc ?_ _ | with_reducible refine Fr.setIn ?_ (by first | exact Or.inl rfl | exact Or.inr (by simp; done) | exact Or.inr (by simp; omega) | exact Or.inr (by omega)) _))) hf1
    have hB := HB0.out.fr hf1 (fun x => x)
    have hBA := hB.alloc (.cells #[.int .i64 hv] 3)
    have hBB := hBA.alloc (.cells #[.int .i64 acc, .int .i64 ei, .int .u64 (ec : Int), .int .u64 (ep : Int), .slice E en ecp] tEnt)
    have z0 : Bl ((w1.alloc (.cells #[.int .i64 hv] 3)).alloc (.cells #[.int .i64 acc, .int .i64 ei, .int .u64 (ec : Int), .int .u64 (ep : Int), .slice E en ecp] tEnt)) w1.heap.size 3 #[.int .i64 hv] := (Bl.new _ _ _).alloc _
    have zh := z0.cell' (i := 0) rfl
    have HBB := hide hBB
    have HZ0 := hide z0
    have a8 := hBA.cell' (i := 8) rfl
    have a9 := hBA.cell' (i := 9) rfl
    have a10 := hBA.cell' (i := 10) rfl
    have a11 := hBA.cell' (i := 11) rfl
    have a12 := hBA.cell' (i := 12) rfl
    have a0 := hBB.cell' (i := 0) rfl
    have a2 := hBB.cell' (i := 2) rfl
    have a3 := hBB.cell' (i := 3) rfl
    have a5 := hBB.cell' (i := 5) rfl
    have a6 := hBB.cell' (i := 6) rfl
    have a7 := hBB.cell' (i := 7) rfl
    have HFB : Hid (Fr (fun _ => False) w ((w1.alloc (.cells #[.int .i64 hv] 3)).alloc (.cells #[.int .i64 acc, .int .i64 ei, .int .u64 (ec : Int), .int .u64 (ep : Int), .slice E en ecp] tEnt))) := (HF1.out.alloc _).alloc _
    clear hf1 hB hBA hBB z0
    go_wp2_with fail
    go_ret
    have hr : ok = false := by rw [HOK.out]; simp only [Q0.out, Q1.out, Q2.out, Q3.out, Bool.and_true, Bool.true_and, Bool.and_false, Bool.false_and]
    exact ⟨by rw [hr]; rfl, HFB.out⟩
  have Q3 : Hid (decide (sl ≤ 128) = true) := decide_eq_true h0
  have i3 : decide ((128 : Int) < (sl : Int)) = false := decide_eq_false (by omega)
  have i4 : decide (128 < sl) = false := decide_eq_false (by omega)
  clear h0
  go_enter Try.func56, Try.ntmps56
  go_wp2_with fail
  refine (HC.out _).mono ?_
  rintro x w1 ⟨rfl, hf1⟩
  have HF1 : Hid (Fr (fun _ => False) w w1) := Fr.trans (by (repeat (first | with_reducible exact Fr.refl _ _ | with_reducible assumption | with_reducible refine Fr.drew ?_ | with_reducible refine Fr.drewN ?_ _ | with_reducible refine Fr.alloc ?_ _ | with_reducible refine Fr.setIn ?_ (by first | exact Or.inl rfl | exact Or.inr (by simp; done) | exact Or.inr (by simp; omega) | exact Or.inr (by omega)) _))) hf1
  have hB := HB0.out.fr hf1 (fun x => x)
  have hBA := hB.alloc (.cells #[.int .i64 hv] 3)
  have hBB := hBA.alloc (.cells #[.int .i64 acc, .int .i64 ei, .int .u64 (ec : Int), .int .u64 (ep : Int), .slice E en ecp] tEnt)
  have z0 : Bl ((w1.alloc (.cells #[.int .i64 hv] 3)).alloc (.cells #[.int .i64 acc, .int .i64 ei, .int .u64 (ec : Int), .int .u64 (ep : Int), .slice E en ecp] tEnt)) w1.heap.size 3 #[.int .i64 hv] := (Bl.new _ _ _).alloc _
  have zh := z0.cell' (i := 0) rfl
  have HBB := hide hBB
  have HZ0 := hide z0
  have a8 := hBA.cell' (i := 8) rfl
  have a9 := hBA.cell' (i := 9) rfl
  have a10 := hBA.cell' (i := 10) rfl
  have a11 := hBA.cell' (i := 11) rfl
  have a12 := hBA.cell' (i := 12) rfl
  have a0 := hBB.cell' (i := 0) rfl
  have a2 := hBB.cell' (i := 2) rfl
  have a3 := hBB.cell' (i := 3) rfl
  have a5 := hBB.cell' (i := 5) rfl
  have a6 := hBB.cell' (i := 6) rfl
  have a7 := hBB.cell' (i := 7) rfl
  have HFB : Hid (Fr (fun _ => False) w ((w1.alloc (.cells #[.int .i64 hv] 3)).alloc (.cells #[.int .i64 acc, .int .i64 ei, .int .u64 (ec : Int), .int .u64 (ep : Int), .slice E en ecp] tEnt))) := (HF1.out.alloc _).alloc _
  clear hf1 hB hBA hBB z0
  have HN := hide (fun b (hb : okL [to_, item, num, of_] = b) => numbers_lit ((w1.alloc (.cells #[.int .i64 hv] 3)).alloc (.cells #[.int .i64 acc, .int .i64 ei, .int .u64 (ec : Int), .int .u64 (ep : Int), .slice E en ecp] tEnt)) [to_, item, num, of_] (w1.heap.size + 1 + 1) 4 (by simp) rfl (by omega) #[.int .i64 to_, .int .i64 item, .int .i64 num, .int .i64 of_] rfl hb)
  go_wp2_with fail
  cases hq4 : okL [to_, item, num, of_] with
  | false =>
    have Q4 := hide hq4
    refine (HN.out _ hq4).mono ?_
    rintro x w' ⟨rfl, rfl⟩
    clear a0 a2 a3 a5 a6 a7 a8 a9 a10 a11 a12 hq4
    go_wp2_with fail
    go_ret
    have hr : ok = false := by rw [HOK.out]; simp only [Q0.out, Q1.out, Q2.out, Q3.out, Q4.out, Bool.and_true, Bool.true_and, Bool.and_false, Bool.false_and]
    exact ⟨by rw [hr]; rfl, HFB.out.alloc _⟩
  | true =>
  have Q4 := hide hq4
  refine (HN.out _ hq4).mono ?_
  rintro x w' ⟨rfl, rfl⟩
  clear a0 a2 a3 a5 a6 a7 a8 a9 a10 a11 a12 hq4 zh HN

  obtain ⟨w2, hw2⟩ : ∃ w2, w2 = (((w1.alloc (.cells #[.int .i64 hv] 3)).alloc (.cells #[.int .i64 acc, .int .i64 ei, .int .u64 (ec : Int), .int .u64 (ep : Int), .slice E en ecp] tEnt)).alloc (.cells #[.int .i64 to_, .int .i64 item, .int .i64 num, .int .i64 of_] 3)) := ⟨_, rfl⟩
  rw [← hw2]
  have HF2 : Hid (Fr (fun _ => False) w w2) := by rw [hw2]; exact HFB.out.alloc _
  have HB2 : Hid (Bl w2 w.heap.size tCmd #[.int .i64 rid, .int .i64 kind, .string str, .int .i64 to_, .int .u64 (co : Int), .int .i64 item, .int .i64 num, .int .i64 of_, .int .i64 acc, .int .i64 ei, .int .u64 (ec : Int), .int .u64 (ep : Int), .slice E en ecp, .int .i64 knum, .int .i64 kkind, .int .i64 kby, .int .i64 kdl, .int .i64 kto, .int .i64 kwant, .int .u64 (kpr : Int), .int .u64 (krs : Int), .int .u64 (kst : Int), .int .i64 kof, .slice X xn xc]) := by rw [hw2]; exact HBB.out.alloc _
  have HZ2 : Hid (Bl w2 w1.heap.size 3 #[.int .i64 hv]) := by rw [hw2]; exact HZ0.out.alloc _
  have HN2 : Hid (Bl w2 (w1.heap.size + 1) tEnt #[.int .i64 acc, .int .i64 ei, .int .u64 (ec : Int), .int .u64 (ep : Int), .slice E en ecp]) := by rw [hw2]; exact (Bl.newAt (by simp)).alloc _
  clear hw2 HFB HBB HZ0 HB0 HC hfd HF1
  have e0 := HN2.out.cell' (i := 0) rfl
  have e1 := HN2.out.cell' (i := 1) rfl
  have e2 := HN2.out.cell' (i := 2) rfl
  have e3 := HN2.out.cell' (i := 3) rfl
  have e4 := HN2.out.cell' (i := 4) rfl
  go_wp2_with fail
  refine (HE.out _ HF2.out).mono ?_
  rintro x w3 ⟨rfl, hf3⟩
  have HF3 := hide (HF2.out.trans hf3)
  have HB3 := hide (HB2.out.fr hf3 (fun x => x))
  have HZ3 := hide (HZ2.out.fr hf3 (fun x => x))
  have HN3 := hide (HN2.out.fr hf3 (fun x => x))
  clear hf3 HF2 HB2 HZ2 HN2 HE e0 e1 e2 e3 e4
  cases eok with
  | false =>
    have Q5 : Hid (false = false) := rfl
    go_wp2_with fail
    go_ret
    have hr : ok = false := by rw [HOK.out]; simp only [Q0.out, Q1.out, Q2.out, Q3.out, Q4.out, Bool.and_true, Bool.true_and, Bool.and_false, Bool.false_and]
    exact ⟨by rw [hr]; rfl, HF3.out⟩
  | true =>
  have e0 := HN3.out.cell' (i := 0) rfl
  by_cases h0 : acc = 0
  rotate_left
  · skip
    have Q6 : Hid (decide (acc = 0) = false) := decide_eq_false h0
    have i6 : (acc != 0) = true := by simpa using h0
    have i7 : ¬ acc = 0 := h0
    clear h0
    go_wp2_with fail
    go_ret
    have hr : ok = false := by rw [HOK.out]; simp only [Q0.out, Q1.out, Q2.out, Q3.out, Q4.out, Q6.out, Bool.and_true, Bool.true_and, Bool.and_false, Bool.false_and]
    exact ⟨by rw [hr]; rfl, HF3.out⟩
  have Q6 : Hid (decide (acc = 0) = true) := decide_eq_true h0
  have i6 : (acc != 0) = false := by rw [h0]; rfl
  have H6 := hide h0
  clear h0
  have hb3 := HB3.out
  unfold Bl at hb3
  go_wp2_with (refine wpList_load_at rfl tCon _ rfl w.heap.size 13 rfl tCmd _ #[.int .i64 knum, .int .i64 kkind, .int .i64 kby, .int .i64 kdl, .int .i64 kto, .int .i64 kwant, .int .u64 (kpr : Int), .int .u64 (krs : Int), .int .u64 (kst : Int), .int .i64 kof, .slice X xn xc] (0, 0) _ hb3 Try.underlying29 rfl (by kernel_rfl) rfl ?_)
  refine (HK.out _ HF3.out).mono ?_
  rintro x w4 ⟨rfl, hf4⟩
  have HF4 := hide (HF3.out.trans hf4)
  have HB4 := hide (HB3.out.fr hf4 (fun x => x))
  have HZ4 := hide (HZ3.out.fr hf4 (fun x => x))
  have HN4 := hide (HN3.out.fr hf4 (fun x => x))
  clear hf4 HF3 HB3 HZ3 HN3 HK hb3 e0
  cases kok with
  | false =>
    go_wp2_with fail
    go_ret
    have hr : ok = false := by rw [HOK.out]; simp only [Q0.out, Q1.out, Q2.out, Q3.out, Q4.out, Q6.out, Bool.and_true, Bool.true_and, Bool.and_false, Bool.false_and]
    exact ⟨by rw [hr]; rfl, HF4.out⟩
  | true =>
  have c2 := HB4.out.cell' (i := 2) rfl
  have c3 := HB4.out.cell' (i := 3) rfl
  have c4 := HB4.out.cell' (i := 4) rfl
  have c5 := HB4.out.cell' (i := 5) rfl
  have c6 := HB4.out.cell' (i := 6) rfl
  have c7 := HB4.out.cell' (i := 7) rfl
  have c13 := HB4.out.cell' (i := 13) rfl
  have c15 := HB4.out.cell' (i := 15) rfl
  have c23 := HB4.out.cell' (i := 23) rfl
  by_cases h0 : knum = 0
  rotate_left
  · skip
    have Q7 : Hid (decide (knum = 0) = false) := decide_eq_false h0
    have i8 : (knum != 0) = true := by simpa using h0
    have i9 : ¬ knum = 0 := h0
    clear h0
    go_wp2_with fail
    go_ret
    have hr : ok = false := by rw [HOK.out]; simp only [Q0.out, Q1.out, Q2.out, Q3.out, Q4.out, Q6.out, Q7.out, Bool.and_true, Bool.true_and, Bool.and_false, Bool.false_and]
    exact ⟨by rw [hr]; rfl, HF4.out⟩
  have Q7 : Hid (decide (knum = 0) = true) := decide_eq_true h0
  have i8 : (knum != 0) = false := by rw [h0]; rfl
  clear h0
  by_cases h0 : kby = 0
  rotate_left
  · skip
    have Q8 : Hid (decide (kby = 0) = false) := decide_eq_false h0
    have i10 : (kby != 0) = true := by simpa using h0
    have i11 : ¬ kby = 0 := h0
    clear h0
    go_wp2_with fail
    go_ret
    have hr : ok = false := by rw [HOK.out]; simp only [Q0.out, Q1.out, Q2.out, Q3.out, Q4.out, Q6.out, Q7.out, Q8.out, Bool.and_true, Bool.true_and, Bool.and_false, Bool.false_and]
    exact ⟨by rw [hr]; rfl, HF4.out⟩
  have Q8 : Hid (decide (kby = 0) = true) := decide_eq_true h0
  have i10 : (kby != 0) = false := by rw [h0]; rfl
  clear h0
  by_cases h0 : xn = 0
  rotate_left
  · skip
    have Q9 : Hid (decide (xn = 0) = false) := decide_eq_false h0
    have i12 : decide (0 < xn) = true := decide_eq_true (by omega)
    have i13 : decide ((0 : Int) < (xn : Int)) = true := decide_eq_true (by omega)
    clear h0
    go_wp2_with fail
    go_ret
    have hr : ok = false := by rw [HOK.out]; simp only [Q0.out, Q1.out, Q2.out, Q3.out, Q4.out, Q6.out, Q7.out, Q8.out, Q9.out, Bool.and_true, Bool.true_and, Bool.and_false, Bool.false_and]
    exact ⟨by rw [hr]; rfl, HF4.out⟩
  have Q9 : Hid (decide (xn = 0) = true) := decide_eq_true h0
  have i12 : decide (0 < xn) = false := decide_eq_false (by omega)
  have i13 : decide ((0 : Int) < (xn : Int)) = false := decide_eq_false (by omega)
  clear h0
  have n1 : str.toList.isEmpty = m1 := by
    have h1 : decide (sl = 0) = m1 := M1.out
    rw [← h1, ← decide_eq_emptyBytes]
    exact decide_eq_decide.2 (Iff.of_eq Hnm.out)
  have n2 : decide (to_ = 0) = m2 := M2.out
  have n2' : (to_ == 0) = m2 := by rw [← n2]; rfl
  have n3 : decide (co = 0) = m3 := M3.out
  have n3' : decide ((co : Int) = 0) = m3 := by rw [← n3]; exact decide_eq_decide.2 (by omega)
  have n3a : ((co : Int) == 0) = m3 := by rw [← n3']; rfl
  have n4 : decide (item = 0) = m4 := M4.out
  have n4' : (item == 0) = m4 := by rw [← n4]; rfl
  have n5 : decide (num = 0) = m5 := M5.out
  have n5' : (num == 0) = m5 := by rw [← n5]; rfl
  have n6 : decide (of_ = 0) = m6 := M6.out
  have n6' : (of_ == 0) = m6 := by rw [← n6]; rfl
  clear M1 M2 M3 M4 M5 M6 Hnm
  go_wp2_with fail
  have HL := hide (lacks_any w4 _ hv 1 m1 b1 _ HZ4.out BT.out.1)
  cases hv1 : (b1 || m1) with
  | false =>
    have V1 := hide hv1
    rw [hv1] at HL
    refine HL.out.mono ?_
    rintro x w' ⟨rfl, rfl⟩
    clear HL hv1
    have hu : (undef : Value) = .tuple #[] := rfl
    clear n1 n2 n2' n3 n3' n3a n4 n4' n5 n5' n6 n6' c2 c3 c4 c5 c6 c7 c13 c15 c23
    go_wp2_with fail
    go_ret
    have hr : ok = false := by rw [HOK.out]; simp only [Q0.out, Q1.out, Q2.out, Q3.out, Q4.out, Q6.out, Q7.out, Q8.out, Q9.out, V1.out, Bool.and_true, Bool.true_and, Bool.and_false, Bool.false_and]
    exact ⟨by rw [hr]; rfl, HF4.out⟩
  | true =>
  have V1 := hide hv1
  rw [hv1] at HL
  refine HL.out.mono ?_
  rintro x w' ⟨rfl, rfl⟩
  clear HL hv1
  go_wp2_with fail
  have HL := hide (lacks_any w4 _ hv 2 m2 b2 _ HZ4.out BT.out.2.1)
  cases hv2 : (b2 || m2) with
  | false =>
    have V2 := hide hv2
    rw [hv2] at HL
    refine HL.out.mono ?_
    rintro x w' ⟨rfl, rfl⟩
    clear HL hv2
    have hu : (undef : Value) = .tuple #[] := rfl
    clear n1 n2 n2' n3 n3' n3a n4 n4' n5 n5' n6 n6' c2 c3 c4 c5 c6 c7 c13 c15 c23
    go_wp2_with fail
    go_ret
    have hr : ok = false := by rw [HOK.out]; simp only [Q0.out, Q1.out, Q2.out, Q3.out, Q4.out, Q6.out, Q7.out, Q8.out, Q9.out, V1.out, V2.out, Bool.and_true, Bool.true_and, Bool.and_false, Bool.false_and]
    exact ⟨by rw [hr]; rfl, HF4.out⟩
  | true =>
  have V2 := hide hv2
  rw [hv2] at HL
  refine HL.out.mono ?_
  rintro x w' ⟨rfl, rfl⟩
  clear HL hv2
  go_wp2_with fail
  have HL := hide (lacks_any w4 _ hv 4 m3 b3 _ HZ4.out BT.out.2.2.1)
  cases hv3 : (b3 || m3) with
  | false =>
    have V3 := hide hv3
    rw [hv3] at HL
    refine HL.out.mono ?_
    rintro x w' ⟨rfl, rfl⟩
    clear HL hv3
    have hu : (undef : Value) = .tuple #[] := rfl
    clear n1 n2 n2' n3 n3' n3a n4 n4' n5 n5' n6 n6' c2 c3 c4 c5 c6 c7 c13 c15 c23
    go_wp2_with fail
    go_ret
    have hr : ok = false := by rw [HOK.out]; simp only [Q0.out, Q1.out, Q2.out, Q3.out, Q4.out, Q6.out, Q7.out, Q8.out, Q9.out, V1.out, V2.out, V3.out, Bool.and_true, Bool.true_and, Bool.and_false, Bool.false_and]
    exact ⟨by rw [hr]; rfl, HF4.out⟩
  | true =>
  have V3 := hide hv3
  rw [hv3] at HL
  refine HL.out.mono ?_
  rintro x w' ⟨rfl, rfl⟩
  clear HL hv3
  go_wp2_with fail
  have HL := hide (lacks_any w4 _ hv 8 m4 b4 _ HZ4.out BT.out.2.2.2.1)
  cases hv4 : (b4 || m4) with
  | false =>
    have V4 := hide hv4
    rw [hv4] at HL
    refine HL.out.mono ?_
    rintro x w' ⟨rfl, rfl⟩
    clear HL hv4
    have hu : (undef : Value) = .tuple #[] := rfl
    clear n1 n2 n2' n3 n3' n3a n4 n4' n5 n5' n6 n6' c2 c3 c4 c5 c6 c7 c13 c15 c23
    go_wp2_with fail
    go_ret
    have hr : ok = false := by rw [HOK.out]; simp only [Q0.out, Q1.out, Q2.out, Q3.out, Q4.out, Q6.out, Q7.out, Q8.out, Q9.out, V1.out, V2.out, V3.out, V4.out, Bool.and_true, Bool.true_and, Bool.and_false, Bool.false_and]
    exact ⟨by rw [hr]; rfl, HF4.out⟩
  | true =>
  have V4 := hide hv4
  rw [hv4] at HL
  refine HL.out.mono ?_
  rintro x w' ⟨rfl, rfl⟩
  clear HL hv4
  go_wp2_with fail
  have HL := hide (lacks_any w4 _ hv 16 m5 b5 _ HZ4.out BT.out.2.2.2.2.1)
  cases hv5 : (b5 || m5) with
  | false =>
    have V5 := hide hv5
    rw [hv5] at HL
    refine HL.out.mono ?_
    rintro x w' ⟨rfl, rfl⟩
    clear HL hv5
    have hu : (undef : Value) = .tuple #[] := rfl
    clear n1 n2 n2' n3 n3' n3a n4 n4' n5 n5' n6 n6' c2 c3 c4 c5 c6 c7 c13 c15 c23
    go_wp2_with fail
    go_ret
    have hr : ok = false := by rw [HOK.out]; simp only [Q0.out, Q1.out, Q2.out, Q3.out, Q4.out, Q6.out, Q7.out, Q8.out, Q9.out, V1.out, V2.out, V3.out, V4.out, V5.out, Bool.and_true, Bool.true_and, Bool.and_false, Bool.false_and]
    exact ⟨by rw [hr]; rfl, HF4.out⟩
  | true =>
  have V5 := hide hv5
  rw [hv5] at HL
  refine HL.out.mono ?_
  rintro x w' ⟨rfl, rfl⟩
  clear HL hv5
  go_wp2_with fail
  have HL := hide (lacks_any w4 _ hv 32 m6 b6 _ HZ4.out BT.out.2.2.2.2.2.1)
  cases hv6 : (b6 || m6) with
  | false =>
    have V6 := hide hv6
    rw [hv6] at HL
    refine HL.out.mono ?_
    rintro x w' ⟨rfl, rfl⟩
    clear HL hv6
    have hu : (undef : Value) = .tuple #[] := rfl
    clear n1 n2 n2' n3 n3' n3a n4 n4' n5 n5' n6 n6' c2 c3 c4 c5 c6 c7 c13 c15 c23
    go_wp2_with fail
    go_ret
    have hr : ok = false := by rw [HOK.out]; simp only [Q0.out, Q1.out, Q2.out, Q3.out, Q4.out, Q6.out, Q7.out, Q8.out, Q9.out, V1.out, V2.out, V3.out, V4.out, V5.out, V6.out, Bool.and_true, Bool.true_and, Bool.and_false, Bool.false_and]
    exact ⟨by rw [hr]; rfl, HF4.out⟩
  | true =>
  have V6 := hide hv6
  rw [hv6] at HL
  refine HL.out.mono ?_
  rintro x w' ⟨rfl, rfl⟩
  clear HL hv6
  have hb4 := HB4.out
  unfold Bl at hb4
  go_wp2_with (refine wpList_load_at rfl tCon _ rfl w.heap.size 13 rfl tCmd _ #[.int .i64 knum, .int .i64 kkind, .int .i64 kby, .int .i64 kdl, .int .i64 kto, .int .i64 kwant, .int .u64 (kpr : Int), .int .u64 (krs : Int), .int .u64 (kst : Int), .int .i64 kof, .slice X xn xc] (0, 0) _ hb4 Try.underlying29 rfl (by kernel_rfl) rfl ?_)
  refine (HKB.out _ (by first | trivial | rfl)).mono ?_
  rintro x w5 ⟨rfl, hf5⟩
  have HF5 := hide (HF4.out.trans hf5)
  have HZ5 := hide (HZ4.out.fr hf5 (fun x => x))
  have HN5 := hide (HN4.out.fr hf5 (fun x => x))
  clear hf5 HF4 HB4 HZ4 HN4 HKB hb4 c2 c3 c4 c5 c6 c7 c13 c15 c23
  go_wp2_with fail
  have HL := hide (lacks_any w5 _ hv 128 m7 b7 _ HZ5.out BT.out.2.2.2.2.2.2.1)
  cases hv7 : (b7 || m7) with
  | false =>
    have V7 := hide hv7
    rw [hv7] at HL
    refine HL.out.mono ?_
    rintro x w' ⟨rfl, rfl⟩
    clear HL hv7
    have hu : (undef : Value) = .tuple #[] := rfl
    clear n1 n2 n2' n3 n3' n3a n4 n4' n5 n5' n6 n6' 
    go_wp2_with fail
    go_ret
    have hr : ok = false := by rw [HOK.out]; simp only [Q0.out, Q1.out, Q2.out, Q3.out, Q4.out, Q6.out, Q7.out, Q8.out, Q9.out, V1.out, V2.out, V3.out, V4.out, V5.out, V6.out, V7.out, Bool.and_true, Bool.true_and, Bool.and_false, Bool.false_and]
    exact ⟨by rw [hr]; rfl, HF5.out⟩
  | true =>
  have V7 := hide hv7
  rw [hv7] at HL
  refine HL.out.mono ?_
  rintro x w' ⟨rfl, rfl⟩
  clear HL hv7
  have e1 := HN5.out.cell' (i := 1) rfl
  have e2 := HN5.out.cell' (i := 2) rfl
  have e3 := HN5.out.cell' (i := 3) rfl
  have e4 := HN5.out.cell' (i := 4) rfl
  by_cases h0 : ei = 0
  rotate_left
  · skip
    have K0 : Hid (decide (ei = 0) = false) := decide_eq_false h0
    have k9 : ¬ ei = 0 := h0
    clear h0
    go_wp2_with fail
    refine (lacks_any w5 _ hv 64 false b8 _ HZ5.out BT.out.2.2.2.2.2.2.2).mono ?_
    rintro x w' ⟨rfl, rfl⟩
    have HR : Hid (ok = b8) := by
      show ok = _
      rw [HOK.out, HM8.out]
      simp only [Q0.out, Q1.out, Q2.out, Q3.out, Q4.out, Q6.out, Q7.out, Q8.out, Q9.out, V1.out, V2.out, V3.out, V4.out, V5.out, V6.out, V7.out, K0.out, Bool.and_true, Bool.true_and, Bool.and_false, Bool.false_and, Bool.or_false, Bool.or_true]
    go_wp2_with fail
    go_ret
    exact ⟨by rw [HR.out]; rfl, HF5.out⟩
  have K0 : Hid (decide (ei = 0) = true) := decide_eq_true h0
  have k1 : (ei == 0) = true := by rw [h0]; rfl
  have z0 := h0
  clear h0
  by_cases h0 : ec = 0
  rotate_left
  · skip
    have K1 : Hid (decide (ec = 0) = false) := decide_eq_false h0
    have k9 : ¬ ec = 0 := h0
    have k8 : ((ec : Int) == 0) = false := by simpa using h0
    clear h0
    go_wp2_with fail
    refine (lacks_any w5 _ hv 64 false b8 _ HZ5.out BT.out.2.2.2.2.2.2.2).mono ?_
    rintro x w' ⟨rfl, rfl⟩
    have HR : Hid (ok = b8) := by
      show ok = _
      rw [HOK.out, HM8.out]
      simp only [Q0.out, Q1.out, Q2.out, Q3.out, Q4.out, Q6.out, Q7.out, Q8.out, Q9.out, V1.out, V2.out, V3.out, V4.out, V5.out, V6.out, V7.out, K0.out, K1.out, Bool.and_true, Bool.true_and, Bool.and_false, Bool.false_and, Bool.or_false, Bool.or_true]
    go_wp2_with fail
    go_ret
    exact ⟨by rw [HR.out]; rfl, HF5.out⟩
  have K1 : Hid (decide (ec = 0) = true) := decide_eq_true h0
  have k2 : ((ec : Int) == 0) = true := by rw [h0]; rfl
  have z1 := h0
  clear h0
  by_cases h0 : ep = 0
  rotate_left
  · skip
    have K2 : Hid (decide (ep = 0) = false) := decide_eq_false h0
    have k9 : ¬ ep = 0 := h0
    have k8 : ((ep : Int) == 0) = false := by simpa using h0
    clear h0
    go_wp2_with fail
    refine (lacks_any w5 _ hv 64 false b8 _ HZ5.out BT.out.2.2.2.2.2.2.2).mono ?_
    rintro x w' ⟨rfl, rfl⟩
    have HR : Hid (ok = b8) := by
      show ok = _
      rw [HOK.out, HM8.out]
      simp only [Q0.out, Q1.out, Q2.out, Q3.out, Q4.out, Q6.out, Q7.out, Q8.out, Q9.out, V1.out, V2.out, V3.out, V4.out, V5.out, V6.out, V7.out, K0.out, K1.out, K2.out, Bool.and_true, Bool.true_and, Bool.and_false, Bool.false_and, Bool.or_false, Bool.or_true]
    go_wp2_with fail
    go_ret
    exact ⟨by rw [HR.out]; rfl, HF5.out⟩
  have K2 : Hid (decide (ep = 0) = true) := decide_eq_true h0
  have k3 : ((ep : Int) == 0) = true := by rw [h0]; rfl
  have z2 := h0
  clear h0
  by_cases h0 : en = 0
  rotate_left
  · skip
    have K3 : Hid (decide (en = 0) = false) := decide_eq_false h0
    have k9 : ¬ en = 0 := h0
    have k8 : ((en : Int) == 0) = false := by simpa using h0
    clear h0
    go_wp2_with fail
    refine (lacks_any w5 _ hv 64 false b8 _ HZ5.out BT.out.2.2.2.2.2.2.2).mono ?_
    rintro x w' ⟨rfl, rfl⟩
    have HR : Hid (ok = b8) := by
      show ok = _
      rw [HOK.out, HM8.out]
      simp only [Q0.out, Q1.out, Q2.out, Q3.out, Q4.out, Q6.out, Q7.out, Q8.out, Q9.out, V1.out, V2.out, V3.out, V4.out, V5.out, V6.out, V7.out, K0.out, K1.out, K2.out, K3.out, Bool.and_true, Bool.true_and, Bool.and_false, Bool.false_and, Bool.or_false, Bool.or_true]
    go_wp2_with fail
    go_ret
    exact ⟨by rw [HR.out]; rfl, HF5.out⟩
  have K3 : Hid (decide (en = 0) = true) := decide_eq_true h0
  have k4 : ((en : Int) == 0) = true := by rw [h0]; rfl
  have z3 := h0
  clear h0
  go_wp2_with fail
  refine (lacks_any w5 _ hv 64 true b8 _ HZ5.out BT.out.2.2.2.2.2.2.2).mono ?_
  rintro x w' ⟨rfl, rfl⟩
  have HR : Hid (ok = true) := by
    show ok = _
    rw [HOK.out, HM8.out]
    simp only [Q0.out, Q1.out, Q2.out, Q3.out, Q4.out, Q6.out, Q7.out, Q8.out, Q9.out, V1.out, V2.out, V3.out, V4.out, V5.out, V6.out, V7.out, K0.out, K1.out, K2.out, K3.out, Bool.and_true, Bool.true_and, Bool.and_false, Bool.false_and, Bool.or_false, Bool.or_true]
  go_wp2_with fail
  go_ret
  exact ⟨by rw [HR.out]; rfl, HF5.out⟩
end Go.Proofs.Ytlcjhbemgagchaa
