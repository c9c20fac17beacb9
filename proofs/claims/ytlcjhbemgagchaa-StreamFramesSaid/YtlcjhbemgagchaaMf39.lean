/-
  Texts merged into one, to keep the claim small: PrM0.
-/
import Derived.Deep.CutBlock
import Derived.Test.YtlcjhbemgagchaaMf26
import Derived.Test.YtlcjhbemgagchaaMf25
import Derived.Test.YtlcjhbemgagchaaMf37
/-
  proto: May of the reference. (printed by pr_may2.py)
-/
namespace Go.Proofs.Ytlcjhbemgagchaa
open Go.RowKit
set_option linter.unusedVariables false
set_option linter.unusedSimpArgs false
set_option maxHeartbeats 4000000 in
set_option maxRecDepth 8000 in
theorem May_unfine (w : World) (r : KC) (h : r.at_ w) (hu : r.fine = false) :
    Calls Try.prog 74 #[.agg #[.int .i64 r.id, .int .i64 r.kind, .string (strOf r.name), .int .i64 r.to_, .int .u64 (r.co : Int), .int .i64 r.item, .int .i64 r.num, .int .i64 r.of_, .int .i64 r.e.acc, .int .i64 r.e.item, .int .u64 (r.e.co : Int), .int .u64 (r.e.pr : Int), .slice r.e.A r.e.n r.e.c, .int .i64 r.k.num, .int .i64 r.k.kind, .int .i64 r.k.by_, .int .i64 r.k.dl, .int .i64 r.k.to_, .int .i64 r.k.want, .int .u64 (r.k.pr : Int), .int .u64 (r.k.rs : Int), .int .u64 (r.k.st : Int), .int .i64 r.k.of_, .slice r.k.A r.k.n r.k.c]] w fun e w' => e = .returned (.bool false) ∧ Fr (fun _ => False) w w' := by
  have HE : Hid (∀ w1, Fr (fun _ => False) w w1 → Calls Try.prog 112 #[.agg #[.int .i64 r.e.acc, .int .i64 r.e.item, .int .u64 (r.e.co : Int), .int .u64 (r.e.pr : Int), .slice r.e.A r.e.n r.e.c]] w1 fun e w' => e = .returned (.bool r.e.ok) ∧ Fr (fun _ => False) w1 w') := fun w1 hf => rentry_any w1 r.e (h.e.quiet hf)
  have HK : Hid (∀ w1, Fr (fun _ => False) w w1 → Calls Try.prog 113 #[.agg #[.int .i64 r.k.num, .int .i64 r.k.kind, .int .i64 r.k.by_, .int .i64 r.k.dl, .int .i64 r.k.to_, .int .i64 r.k.want, .int .u64 (r.k.pr : Int), .int .u64 (r.k.rs : Int), .int .u64 (r.k.st : Int), .int .i64 r.k.of_, .slice r.k.A r.k.n r.k.c]] w1 fun e w' => e = .returned (.bool r.k.ok) ∧ Fr (fun _ => False) w1 w') := fun w1 hf => rcontract_any w1 r.k (h.k.quiet hf)
  have Hxn : Hid (r.k.n = r.k.es.length) := h.k.len
  have hxle := h.k.le
  clear h
  obtain ⟨rid, kind, name, to_, co, item, num, of_, ⟨acc, ei, ec, ep, E, en, ecp, ews⟩, ⟨knum, kkind, kby, kdl, kto, kwant, kpr, krs, kst, kof, X, xn, xc, kes⟩⟩ := r
  simp only at HE HK Hxn hxle hu ⊢
  obtain ⟨eok, heok⟩ : ∃ b, ER.ok ⟨acc, ei, ec, ep, E, en, ecp, ews⟩ = b := ⟨_, rfl⟩
  obtain ⟨kok, hkok⟩ : ∃ b, CR.ok ⟨knum, kkind, kby, kdl, kto, kwant, kpr, krs, kst, kof, X, xn, xc, kes⟩ = b := ⟨_, rfl⟩
  rw [heok] at HE
  rw [hkok] at HK
  unfold KC.fine at hu
  simp only at hu
  rw [heok, hkok, ← (Hxn.out : xn = kes.length), show okL [to_, item, num, of_] = (okN to_ && (okN item && (okN num && (okN of_ && true)))) from rfl] at hu
  obtain ⟨str, hstr⟩ : ∃ str, strOf name = str := ⟨_, rfl⟩
  obtain ⟨sl, hsl⟩ : ∃ sl, name.length = sl := ⟨_, rfl⟩
  have hsz : str.size = sl := by rw [← hstr, ← hsl]; exact strOf_size name
  rw [hstr]
  rw [hsl] at hu
  have HU := hide hu
  clear hu heok hkok hsl hstr
  have HB0 : Hid (Bl (w.alloc (.cells #[.int .i64 rid, .int .i64 kind, .string str, .int .i64 to_, .int .u64 (co : Int), .int .i64 item, .int .i64 num, .int .i64 of_, .int .i64 acc, .int .i64 ei, .int .u64 (ec : Int), .int .u64 (ep : Int), .slice E en ecp, .int .i64 knum, .int .i64 kkind, .int .i64 kby, .int .i64 kdl, .int .i64 kto, .int .i64 kwant, .int .u64 (kpr : Int), .int .u64 (krs : Int), .int .u64 (kst : Int), .int .i64 kof, .slice X xn xc] 31)) w.heap.size 31 #[.int .i64 rid, .int .i64 kind, .string str, .int .i64 to_, .int .u64 (co : Int), .int .i64 item, .int .i64 num, .int .i64 of_, .int .i64 acc, .int .i64 ei, .int .u64 (ec : Int), .int .u64 (ep : Int), .slice E en ecp, .int .i64 knum, .int .i64 kkind, .int .i64 kby, .int .i64 kdl, .int .i64 kto, .int .i64 kwant, .int .u64 (kpr : Int), .int .u64 (krs : Int), .int .u64 (kst : Int), .int .i64 kof, .slice X xn xc]) := Bl.new _ _ _
  have HF0 : Hid (Fr (fun _ => False) w (w.alloc (.cells #[.int .i64 rid, .int .i64 kind, .string str, .int .i64 to_, .int .u64 (co : Int), .int .i64 item, .int .i64 num, .int .i64 of_, .int .i64 acc, .int .i64 ei, .int .u64 (ec : Int), .int .u64 (ep : Int), .slice E en ecp, .int .i64 knum, .int .i64 kkind, .int .i64 kby, .int .i64 kdl, .int .i64 kto, .int .i64 kwant, .int .u64 (kpr : Int), .int .u64 (krs : Int), .int .u64 (kst : Int), .int .i64 kof, .slice X xn xc] 31))) := (Fr.refl _ _).alloc _
  by_cases h0 : 0 ≤ rid
  rotate_left
  · skip
    have i1 : decide (rid < 0) = true := decide_eq_true (by omega)
    clear h0
    go_enter Try.func74, Try.ntmps74
    go_wp2_with fail
    go_ret
    exact ⟨rfl, HF0.out⟩
  have Q1 : Hid (decide (0 ≤ rid) = true) := decide_eq_true h0
  have i1 : decide (rid < 0) = false := decide_eq_false (by omega)
  clear h0
  by_cases h0 : rid ≤ 4294967295
  rotate_left
  · skip
    have i2 : decide ((4294967295 : Int) < rid) = true := decide_eq_true (by omega)
    clear h0
    go_enter Try.func74, Try.ntmps74
    go_wp2_with fail
    go_ret
    exact ⟨rfl, HF0.out⟩
  have Q2 : Hid (decide (rid ≤ 4294967295) = true) := decide_eq_true h0
  have i2 : decide ((4294967295 : Int) < rid) = false := decide_eq_false (by omega)
  clear h0
  by_cases h0 : 1 ≤ kind
  rotate_left
  · skip
    have j1 : decide (kind < 1) = true := decide_eq_true (by omega)
    clear h0
    go_enter Try.func74, Try.ntmps74
    go_wp2_with fail
    go_ret
    exact ⟨rfl, HF0.out⟩
  have R1 : Hid (decide (1 ≤ kind) = true) := decide_eq_true h0
  have j1 : decide (kind < 1) = false := decide_eq_false (by omega)
  clear h0
  by_cases h0 : kind ≤ 14
  rotate_left
  · skip
    have j2 : decide ((14 : Int) < kind) = true := decide_eq_true (by omega)
    clear h0
    go_enter Try.func74, Try.ntmps74
    go_wp2_with fail
    go_ret
    exact ⟨rfl, HF0.out⟩
  have R2 : Hid (decide (kind ≤ 14) = true) := decide_eq_true h0
  have j2 : decide ((14 : Int) < kind) = false := decide_eq_false (by omega)
  clear h0
  by_cases h0 : sl ≤ 128
  rotate_left
  · skip
    have i3 : decide ((128 : Int) < (sl : Int)) = true := decide_eq_true (by omega)
    have i4 : decide (128 < sl) = true := decide_eq_true (by omega)
    clear h0
    go_enter Try.func74, Try.ntmps74
    go_wp2_with fail
    go_ret
    exact ⟨rfl, HF0.out⟩
  have Q3 : Hid (decide (sl ≤ 128) = true) := decide_eq_true h0
  have i3 : decide ((128 : Int) < (sl : Int)) = false := decide_eq_false (by omega)
  have i4 : decide (128 < sl) = false := decide_eq_false (by omega)
  clear h0
  have c3 := HB0.out.cell' (i := 3) rfl
  have c5 := HB0.out.cell' (i := 5) rfl
  have c6 := HB0.out.cell' (i := 6) rfl
  have c7 := HB0.out.cell' (i := 7) rfl
  have c8 := HB0.out.cell' (i := 8) rfl
  go_enter Try.func74, Try.ntmps74
  go_wp2_with fail
  cases hq : okN to_ with
  | false =>
    refine (rnumber_is _ to_ _ hq).mono ?_
    rintro x w' ⟨rfl, rfl⟩
    clear hq
    go_wp2_with fail
    go_ret
    exact ⟨rfl, HF0.out⟩
  | true =>
  have N1 := hide hq
  refine (rnumber_is _ to_ _ hq).mono ?_
  rintro x w' ⟨rfl, rfl⟩
  clear hq
  go_wp2_with fail
  cases hq : okN item with
  | false =>
    refine (rnumber_is _ item _ hq).mono ?_
    rintro x w' ⟨rfl, rfl⟩
    clear hq
    go_wp2_with fail
    go_ret
    exact ⟨rfl, HF0.out⟩
  | true =>
  have N2 := hide hq
  refine (rnumber_is _ item _ hq).mono ?_
  rintro x w' ⟨rfl, rfl⟩
  clear hq
  go_wp2_with fail
  cases hq : okN num with
  | false =>
    refine (rnumber_is _ num _ hq).mono ?_
    rintro x w' ⟨rfl, rfl⟩
    clear hq
    go_wp2_with fail
    go_ret
    exact ⟨rfl, HF0.out⟩
  | true =>
  have N3 := hide hq
  refine (rnumber_is _ num _ hq).mono ?_
  rintro x w' ⟨rfl, rfl⟩
  clear hq
  go_wp2_with fail
  cases hq : okN of_ with
  | false =>
    refine (rnumber_is _ of_ _ hq).mono ?_
    rintro x w' ⟨rfl, rfl⟩
    clear hq
    go_wp2_with fail
    go_ret
    exact ⟨rfl, HF0.out⟩
  | true =>
  have N4 := hide hq
  refine (rnumber_is _ of_ _ hq).mono ?_
  rintro x w' ⟨rfl, rfl⟩
  clear hq
  by_cases h0 : acc = 0
  rotate_left
  · skip
    have i6 : (acc != 0) = true := by simpa using h0
    have i7 : ¬ acc = 0 := h0
    clear h0
    go_wp2_with fail
    go_ret
    exact ⟨rfl, HF0.out⟩
  have Q6 : Hid (decide (acc = 0) = true) := decide_eq_true h0
  have Hacc := hide h0
  have i6 : (acc != 0) = false := by rw [h0]; rfl
  clear h0
  have c9 := HB0.out.cell' (i := 9) rfl
  have c10 := HB0.out.cell' (i := 10) rfl
  have c11 := HB0.out.cell' (i := 11) rfl
  have c12 := HB0.out.cell' (i := 12) rfl
  go_wp2_with fail
  refine (HE.out _ HF0.out).mono ?_
  rintro x w3 ⟨rfl, hf3⟩
  have HF3 := hide (HF0.out.trans hf3)
  have HB3 := hide (HB0.out.fr hf3 (fun x => x))
  clear hf3 HE HF0 HB0 c3 c5 c6 c7 c8 c9 c10 c11 c12
  have hb3 := HB3.out
  unfold Bl at hb3
  cases eok with
  | false =>
    go_wp2_with fail
    go_ret
    exact ⟨rfl, HF3.out⟩
  | true =>
  go_wp2_with (refine wpList_load_at rfl 29 _ rfl w.heap.size 13 rfl 31 _ #[.int .i64 knum, .int .i64 kkind, .int .i64 kby, .int .i64 kdl, .int .i64 kto, .int .i64 kwant, .int .u64 (kpr : Int), .int .u64 (krs : Int), .int .u64 (kst : Int), .int .i64 kof, .slice X xn xc] (0, 0) _ hb3 Try.underlying29 rfl (by kernel_rfl) rfl ?_)
  refine (HK.out _ HF3.out).mono ?_
  rintro x w4 ⟨rfl, hf4⟩
  have HF4 := hide (HF3.out.trans hf4)
  have HB4 := hide (HB3.out.fr hf4 (fun x => x))
  clear hf4 HF3 HB3 HK hb3
  cases kok with
  | false =>
    go_wp2_with fail
    go_ret
    exact ⟨rfl, HF4.out⟩
  | true =>
  have c13 := HB4.out.cell' (i := 13) rfl
  have c15 := HB4.out.cell' (i := 15) rfl
  have c23 := HB4.out.cell' (i := 23) rfl
  by_cases h0 : knum = 0
  rotate_left
  · skip
    have i8 : (knum != 0) = true := by simpa using h0
    have i9 : ¬ knum = 0 := h0
    clear h0
    go_wp2_with fail
    go_ret
    exact ⟨rfl, HF4.out⟩
  have Q7 : Hid (decide (knum = 0) = true) := decide_eq_true h0
  have i8 : (knum != 0) = false := by rw [h0]; rfl
  clear h0
  by_cases h0 : kby = 0
  rotate_left
  · skip
    have i10 : (kby != 0) = true := by simpa using h0
    have i11 : ¬ kby = 0 := h0
    clear h0
    go_wp2_with fail
    go_ret
    exact ⟨rfl, HF4.out⟩
  have Q8 : Hid (decide (kby = 0) = true) := decide_eq_true h0
  have i10 : (kby != 0) = false := by rw [h0]; rfl
  clear h0
  by_cases h0 : xn = 0
  rotate_left
  · skip
    have i12 : (xn != 0) = true := by simpa using h0
    have i13 : ((xn : Int) != 0) = true := by simpa using h0
    have i14 : ¬ xn = 0 := h0
    clear h0
    go_wp2_with fail
    go_ret
    exact ⟨rfl, HF4.out⟩
  have Q9 : Hid (decide (xn = 0) = true) := decide_eq_true h0
  clear h0
  have h9 := HU.out
  simp only [Q1.out, Q2.out, R1.out, R2.out, Q3.out, N1.out, N2.out, N3.out, N4.out, Q6.out, Q7.out, Q8.out, Q9.out, Bool.and_true, Bool.true_and] at h9
  exact absurd h9 (by decide)
end Go.Proofs.Ytlcjhbemgagchaa
