/-
  Texts merged into one, to keep the claim small: Pr8.
-/
import Derived.Laws.Rows
import Derived.Test.YtlcjhbemgagchaaMc21
import Derived.Test.YtlcjhbemgagchaaMc8
/-
  proto's reference: number, entry, contract, MayReply. (printed by pr_ref1.py)
-/
namespace Go.Proofs.Ytlcjhbemgagchaa
open Go.RowKit
set_option linter.unusedVariables false
set_option linter.unusedSimpArgs false
set_option maxHeartbeats 1000000 in
set_option maxRecDepth 4000 in
theorem rnumber_is (w : World) (z : Int) (b : Bool) (h : okN z = b) : Calls Try.prog 111 #[.int .i64 z] w fun e w' => e = .returned (.bool b) ∧ w = w' := by
  subst h
  by_cases h1 : 0 ≤ z
  · by_cases h2 : z ≤ 1125899906842624
    · have hr : Hid (okN z = true) := by show _ = _; simp [okN, h1, h2]
      have d2 : decide (z ≤ 1125899906842624) = true := decide_eq_true h2
      go_enter Try.func111, Try.ntmps111
      go_wp2
      go_ret
      exact ⟨by rw [hr.out]; rfl, rfl⟩
    · have hr : Hid (okN z = false) := by show _ = _; simp [okN, h2]
      have d2 : decide (z ≤ 1125899906842624) = false := decide_eq_false h2
      go_enter Try.func111, Try.ntmps111
      go_wp2
      go_ret
      exact ⟨by rw [hr.out]; rfl, rfl⟩
  · have hr : Hid (okN z = false) := by show _ = _; simp [okN, h1]
    have d1 : decide (0 ≤ z) = false := decide_eq_false h1
    go_enter Try.func111, Try.ntmps111
    go_wp2
    go_ret
    exact ⟨by rw [hr.out]; rfl, rfl⟩
set_option maxHeartbeats 8000000 in
set_option maxRecDepth 8000 in
theorem rentry_any (w : World) (r : ER) (h : r.at_ w) :
    Calls Try.prog 112 #[.agg #[.int .i64 r.acc, .int .i64 r.item, .int .u64 (r.co : Int), .int .u64 (r.pr : Int), .slice r.A r.n r.c]] w fun e w' => e = .returned (.bool r.ok) ∧ Fr (fun _ => False) w w' := by
  obtain ⟨acc, item, co, pr, A, n, c, ws⟩ := r
  have Hlen : Hid (n = ws.length) := h.sl.ilen
  have hle : n ≤ 17592186043904 := h.le
  have HSl := hide h.sl
  simp only at HSl ⊢
  clear h
  cases h0 : okN acc with
  | false =>
    have H0 := hide h0
    have hr : Hid (ER.ok ⟨acc, item, co, pr, A, n, c, ws⟩ = false) := by
      show _ = _
      simp [ER.ok, okL, h0]
    clear h0
    go_enter Try.func112, Try.ntmps112
    go_wp2_with fail
    refine (rnumber_is _ _ _ H0.out).mono ?_
    rintro e w' ⟨rfl, rfl⟩
    go_wp2_with fail
    go_ret
    exact ⟨by rw [hr.out]; rfl, by (repeat (first | with_reducible exact Fr.refl _ _ | with_reducible assumption | with_reducible refine Fr.drew ?_ | with_reducible refine Fr.drewN ?_ _ | with_reducible refine Fr.alloc ?_ _ | with_reducible refine Fr.setIn ?_ (by first | exact Or.inl rfl | exact Or.inr (by simp; done) | exact Or.inr (by simp; omega) | exact Or.inr (by omega)) _))⟩
  | true =>
  have H0 := hide h0
  clear h0
  cases h1 : okN item with
  | false =>
    have H1 := hide h1
    have hr : Hid (ER.ok ⟨acc, item, co, pr, A, n, c, ws⟩ = false) := by
      show _ = _
      simp [ER.ok, okL, h1]
    clear h1
    go_enter Try.func112, Try.ntmps112
    go_wp2_with fail
    refine (rnumber_is _ _ _ H0.out).mono ?_
    rintro e w' ⟨rfl, rfl⟩
    go_wp2_with fail
    refine (rnumber_is _ _ _ H1.out).mono ?_
    rintro e w' ⟨rfl, rfl⟩
    go_wp2_with fail
    go_ret
    exact ⟨by rw [hr.out]; rfl, by (repeat (first | with_reducible exact Fr.refl _ _ | with_reducible assumption | with_reducible refine Fr.drew ?_ | with_reducible refine Fr.drewN ?_ _ | with_reducible refine Fr.alloc ?_ _ | with_reducible refine Fr.setIn ?_ (by first | exact Or.inl rfl | exact Or.inr (by simp; done) | exact Or.inr (by simp; omega) | exact Or.inr (by omega)) _))⟩
  | true =>
  have H1 := hide h1
  clear h1
  by_cases h2 : 16 < n
  · skip
    have G2 : Hid (decide (ws.length ≤ 16) = false) := decide_eq_false (by have := Hlen.out; omega)
    have hr : Hid (ER.ok ⟨acc, item, co, pr, A, n, c, ws⟩ = false) := by
      show _ = _
      have := G2.out
      simp only [ER.ok, okL, this, Bool.and_false, Bool.false_and]
    have i2 : (16 : Int) < (n : Int) := by omega
    clear h2
    go_enter Try.func112, Try.ntmps112
    go_wp2_with fail
    refine (rnumber_is _ _ _ H0.out).mono ?_
    rintro e w' ⟨rfl, rfl⟩
    go_wp2_with fail
    refine (rnumber_is _ _ _ H1.out).mono ?_
    rintro e w' ⟨rfl, rfl⟩
    go_wp2_with fail
    go_ret
    exact ⟨by rw [hr.out]; rfl, by (repeat (first | with_reducible exact Fr.refl _ _ | with_reducible assumption | with_reducible refine Fr.drew ?_ | with_reducible refine Fr.drewN ?_ _ | with_reducible refine Fr.alloc ?_ _ | with_reducible refine Fr.setIn ?_ (by first | exact Or.inl rfl | exact Or.inr (by simp; done) | exact Or.inr (by simp; omega) | exact Or.inr (by omega)) _))⟩
  have G2 : Hid (decide (ws.length ≤ 16) = true) := decide_eq_true (by have := Hlen.out; omega)
  have i2 : decide ((16 : Int) < (n : Int)) = false := decide_eq_false (by omega)
  clear h2
  go_enter Try.func112, Try.ntmps112
  go_wp2_with fail
  refine (rnumber_is _ _ _ H0.out).mono ?_
  rintro e w' ⟨rfl, rfl⟩
  go_wp2_with fail
  refine (rnumber_is _ _ _ H1.out).mono ?_
  rintro e w' ⟨rfl, rfl⟩
  go_wp2_with fail
  go_loopw [3] (fun vi wr => ∃ j : Nat, j ≤ n ∧ vi = .int .i64 (j : Int) ∧ Hid (okL ws = okL (ws.drop j)) ∧ Hid (wr = w.alloc (.cells #[.int .i64 acc, .int .i64 item, .int .u64 (co : Int), .int .u64 (pr : Int), .slice A n c] 26))) (fun vi _ => n - (intOf vi).toNat)
  case atStart => exact ⟨0, Nat.zero_le _, rfl, rfl, rfl⟩
  case round =>
    obtain ⟨wo, rfl⟩ : ∃ wo, wo = wr := ⟨_, rfl⟩
    obtain ⟨j, hj, rfl, hk, hw⟩ := hrel
    have hfo : Fr (fun _ => False) w wo := by rw [hw.out]; exact (Fr.refl _ _).alloc _
    have hbx : Bl wo w.heap.size 26 #[.int .i64 acc, .int .i64 item, .int .u64 (co : Int), .int .u64 (pr : Int), .slice A n c] := by rw [hw.out]; exact Bl.new _ _ _
    have cx := hbx.cell' (i := 4) rfl
    have HF := hide hfo
    by_cases hlt : j < n
    · have hjl : j < ws.length := by rw [← (Hlen.out : n = ws.length)]; exact hlt
      obtain ⟨z, hz⟩ : ∃ z, ws[j] = z := ⟨_, rfl⟩
      have hd : ws.drop j = z :: ws.drop (j + 1) := by rw [List.drop_eq_getElem_cons hjl, hz]
      obtain ⟨b, o, rfl, c0⟩ := (HSl.out.quiet hfo).at_ (j := j) (u := .int .i64 z) (by rw [List.getElem?_map, List.getElem?_eq_getElem hjl, hz]; rfl)
      have i0 : (0 : Int) ≤ (j : Int) := by omega
      have i1 : (j : Int) < (n : Int) := by omega
      have q1 : IntKind.i64.wrap ((j : Int) + 1) = ((j + 1 : Nat) : Int) := by rw [IntWalk.i64_in _ (by omega)]; omega
      have Hd := hide hd
      have Hlt := hide hlt
      have HBx := hide hbx
      clear hz hd hjl hlt hj hfo hbx
      cases hz : okN z with
      | false =>
        have Hz := hide hz
        have hr : Hid (ER.ok ⟨acc, item, co, pr, some ⟨b, o, none⟩, n, c, ws⟩ = false) := by
          have : okL ws = false := by rw [hk.out, Hd.out]; simp [okL, hz]
          show _ = _
          simp only [ER.ok, this, Bool.and_false, Bool.false_and]
        clear hz
        go_wp2_with fail
        refine (rnumber_is _ _ _ Hz.out).mono ?_
        rintro e w' ⟨rfl, rfl⟩
        go_wp2_with fail
        go_ret
        exact ⟨by rw [hr.out]; rfl, HF.out⟩
      | true =>
        have Hz := hide hz
        have hk2 : Hid (okL ws = okL (ws.drop (j + 1))) := by
          show _ = _
          rw [hk.out, Hd.out]
          simp [okL, hz]
        clear hz hk
        go_wp2_with fail
        refine (rnumber_is _ _ _ Hz.out).mono ?_
        rintro e w' ⟨rfl, rfl⟩
        go_wp2_with fail
        have := Hlt.out
        exact ⟨⟨j + 1, by omega, by first | rfl | go_num, hk2, hw.out⟩, by simp [intOf]; try omega⟩
    · have hall : okL ws = true := by rw [hk.out, List.drop_eq_nil_of_le (by rw [← (Hlen.out : n = ws.length)]; omega)]; rfl
      obtain rfl : j = n := by omega
      clear hlt hj hk hfo
      have hr : Hid (ER.ok ⟨acc, item, co, pr, A, j, c, ws⟩ = true) := by
        have e0 := H0.out
        have e1 := H1.out
        have e2 := G2.out
        have e3 : okL [acc, item] = true := by simp [okL, e0, e1]
        show _ = _
        simp only [ER.ok, e3, e2, hall, Bool.and_true]
      clear hall hbx
      go_wp2_with fail
      go_ret
      exact ⟨by rw [hr.out]; rfl, HF.out⟩
set_option maxHeartbeats 8000000 in
set_option maxRecDepth 8000 in
theorem rcontract_any (w : World) (r : CR) (h : r.at_ w) :
    Calls Try.prog 113 #[.agg #[.int .i64 r.num, .int .i64 r.kind, .int .i64 r.by_, .int .i64 r.dl, .int .i64 r.to_, .int .i64 r.want, .int .u64 (r.pr : Int), .int .u64 (r.rs : Int), .int .u64 (r.st : Int), .int .i64 r.of_, .slice r.A r.n r.c]] w fun e w' => e = .returned (.bool r.ok) ∧ Fr (fun _ => False) w w' := by
  have HAt := hide h
  have Hlen : Hid (r.n = r.es.length) := h.len
  have hle := h.le
  clear h
  obtain ⟨num, kind, by_, dl, to_, want, pr, rs, st, of_, A, n, c, es⟩ := r
  simp only at HAt Hlen hle ⊢
  cases h0 : okN num with
  | false =>
    have H0 := hide h0
    have hr : Hid (CR.ok ⟨num, kind, by_, dl, to_, want, pr, rs, st, of_, A, n, c, es⟩ = false) := by
      show _ = _
      simp [CR.ok, okL, CR.seven, h0]
    clear h0
    go_enter Try.func113, Try.ntmps113
    go_wp2_with fail
    refine (rnumber_is _ _ _ H0.out).mono ?_
    rintro e w' ⟨rfl, rfl⟩
    go_wp2_with fail
    go_ret
    exact ⟨by rw [hr.out]; rfl, by (repeat (first | with_reducible exact Fr.refl _ _ | with_reducible assumption | with_reducible refine Fr.drew ?_ | with_reducible refine Fr.drewN ?_ _ | with_reducible refine Fr.alloc ?_ _ | with_reducible refine Fr.setIn ?_ (by first | exact Or.inl rfl | exact Or.inr (by simp; done) | exact Or.inr (by simp; omega) | exact Or.inr (by omega)) _))⟩
  | true =>
  have H0 := hide h0
  clear h0
  cases h1 : okN kind with
  | false =>
    have H1 := hide h1
    have hr : Hid (CR.ok ⟨num, kind, by_, dl, to_, want, pr, rs, st, of_, A, n, c, es⟩ = false) := by
      show _ = _
      simp [CR.ok, okL, CR.seven, h1]
    clear h1
    go_enter Try.func113, Try.ntmps113
    go_wp2_with fail
    refine (rnumber_is _ _ _ H0.out).mono ?_
    rintro e w' ⟨rfl, rfl⟩
    go_wp2_with fail
    refine (rnumber_is _ _ _ H1.out).mono ?_
    rintro e w' ⟨rfl, rfl⟩
    go_wp2_with fail
    go_ret
    exact ⟨by rw [hr.out]; rfl, by (repeat (first | with_reducible exact Fr.refl _ _ | with_reducible assumption | with_reducible refine Fr.drew ?_ | with_reducible refine Fr.drewN ?_ _ | with_reducible refine Fr.alloc ?_ _ | with_reducible refine Fr.setIn ?_ (by first | exact Or.inl rfl | exact Or.inr (by simp; done) | exact Or.inr (by simp; omega) | exact Or.inr (by omega)) _))⟩
  | true =>
  have H1 := hide h1
  clear h1
  cases h2 : okN by_ with
  | false =>
    have H2 := hide h2
    have hr : Hid (CR.ok ⟨num, kind, by_, dl, to_, want, pr, rs, st, of_, A, n, c, es⟩ = false) := by
      show _ = _
      simp [CR.ok, okL, CR.seven, h2]
    clear h2
    go_enter Try.func113, Try.ntmps113
    go_wp2_with fail
    refine (rnumber_is _ _ _ H0.out).mono ?_
    rintro e w' ⟨rfl, rfl⟩
    go_wp2_with fail
    refine (rnumber_is _ _ _ H1.out).mono ?_
    rintro e w' ⟨rfl, rfl⟩
    go_wp2_with fail
    refine (rnumber_is _ _ _ H2.out).mono ?_
    rintro e w' ⟨rfl, rfl⟩
    go_wp2_with fail
    go_ret
    exact ⟨by rw [hr.out]; rfl, by (repeat (first | with_reducible exact Fr.refl _ _ | with_reducible assumption | with_reducible refine Fr.drew ?_ | with_reducible refine Fr.drewN ?_ _ | with_reducible refine Fr.alloc ?_ _ | with_reducible refine Fr.setIn ?_ (by first | exact Or.inl rfl | exact Or.inr (by simp; done) | exact Or.inr (by simp; omega) | exact Or.inr (by omega)) _))⟩
  | true =>
  have H2 := hide h2
  clear h2
  cases h3 : okN dl with
  | false =>
    have H3 := hide h3
    have hr : Hid (CR.ok ⟨num, kind, by_, dl, to_, want, pr, rs, st, of_, A, n, c, es⟩ = false) := by
      show _ = _
      simp [CR.ok, okL, CR.seven, h3]
    clear h3
    go_enter Try.func113, Try.ntmps113
    go_wp2_with fail
    refine (rnumber_is _ _ _ H0.out).mono ?_
    rintro e w' ⟨rfl, rfl⟩
    go_wp2_with fail
    refine (rnumber_is _ _ _ H1.out).mono ?_
    rintro e w' ⟨rfl, rfl⟩
    go_wp2_with fail
    refine (rnumber_is _ _ _ H2.out).mono ?_
    rintro e w' ⟨rfl, rfl⟩
    go_wp2_with fail
    refine (rnumber_is _ _ _ H3.out).mono ?_
    rintro e w' ⟨rfl, rfl⟩
    go_wp2_with fail
    go_ret
    exact ⟨by rw [hr.out]; rfl, by (repeat (first | with_reducible exact Fr.refl _ _ | with_reducible assumption | with_reducible refine Fr.drew ?_ | with_reducible refine Fr.drewN ?_ _ | with_reducible refine Fr.alloc ?_ _ | with_reducible refine Fr.setIn ?_ (by first | exact Or.inl rfl | exact Or.inr (by simp; done) | exact Or.inr (by simp; omega) | exact Or.inr (by omega)) _))⟩
  | true =>
  have H3 := hide h3
  clear h3
  cases h4 : okN to_ with
  | false =>
    have H4 := hide h4
    have hr : Hid (CR.ok ⟨num, kind, by_, dl, to_, want, pr, rs, st, of_, A, n, c, es⟩ = false) := by
      show _ = _
      simp [CR.ok, okL, CR.seven, h4]
    clear h4
    go_enter Try.func113, Try.ntmps113
    go_wp2_with fail
    refine (rnumber_is _ _ _ H0.out).mono ?_
    rintro e w' ⟨rfl, rfl⟩
    go_wp2_with fail
    refine (rnumber_is _ _ _ H1.out).mono ?_
    rintro e w' ⟨rfl, rfl⟩
    go_wp2_with fail
    refine (rnumber_is _ _ _ H2.out).mono ?_
    rintro e w' ⟨rfl, rfl⟩
    go_wp2_with fail
    refine (rnumber_is _ _ _ H3.out).mono ?_
    rintro e w' ⟨rfl, rfl⟩
    go_wp2_with fail
    refine (rnumber_is _ _ _ H4.out).mono ?_
    rintro e w' ⟨rfl, rfl⟩
    go_wp2_with fail
    go_ret
    exact ⟨by rw [hr.out]; rfl, by (repeat (first | with_reducible exact Fr.refl _ _ | with_reducible assumption | with_reducible refine Fr.drew ?_ | with_reducible refine Fr.drewN ?_ _ | with_reducible refine Fr.alloc ?_ _ | with_reducible refine Fr.setIn ?_ (by first | exact Or.inl rfl | exact Or.inr (by simp; done) | exact Or.inr (by simp; omega) | exact Or.inr (by omega)) _))⟩
  | true =>
  have H4 := hide h4
  clear h4
  cases h5 : okN want with
  | false =>
    have H5 := hide h5
    have hr : Hid (CR.ok ⟨num, kind, by_, dl, to_, want, pr, rs, st, of_, A, n, c, es⟩ = false) := by
      show _ = _
      simp [CR.ok, okL, CR.seven, h5]
    clear h5
    go_enter Try.func113, Try.ntmps113
    go_wp2_with fail
    refine (rnumber_is _ _ _ H0.out).mono ?_
    rintro e w' ⟨rfl, rfl⟩
    go_wp2_with fail
    refine (rnumber_is _ _ _ H1.out).mono ?_
    rintro e w' ⟨rfl, rfl⟩
    go_wp2_with fail
    refine (rnumber_is _ _ _ H2.out).mono ?_
    rintro e w' ⟨rfl, rfl⟩
    go_wp2_with fail
    refine (rnumber_is _ _ _ H3.out).mono ?_
    rintro e w' ⟨rfl, rfl⟩
    go_wp2_with fail
    refine (rnumber_is _ _ _ H4.out).mono ?_
    rintro e w' ⟨rfl, rfl⟩
    go_wp2_with fail
    refine (rnumber_is _ _ _ H5.out).mono ?_
    rintro e w' ⟨rfl, rfl⟩
    go_wp2_with fail
    go_ret
    exact ⟨by rw [hr.out]; rfl, by (repeat (first | with_reducible exact Fr.refl _ _ | with_reducible assumption | with_reducible refine Fr.drew ?_ | with_reducible refine Fr.drewN ?_ _ | with_reducible refine Fr.alloc ?_ _ | with_reducible refine Fr.setIn ?_ (by first | exact Or.inl rfl | exact Or.inr (by simp; done) | exact Or.inr (by simp; omega) | exact Or.inr (by omega)) _))⟩
  | true =>
  have H5 := hide h5
  clear h5
  cases h6 : okN of_ with
  | false =>
    have H6 := hide h6
    have hr : Hid (CR.ok ⟨num, kind, by_, dl, to_, want, pr, rs, st, of_, A, n, c, es⟩ = false) := by
      show _ = _
      simp [CR.ok, okL, CR.seven, h6]
    clear h6
    go_enter Try.func113, Try.ntmps113
    go_wp2_with fail
    refine (rnumber_is _ _ _ H0.out).mono ?_
    rintro e w' ⟨rfl, rfl⟩
    go_wp2_with fail
    refine (rnumber_is _ _ _ H1.out).mono ?_
    rintro e w' ⟨rfl, rfl⟩
    go_wp2_with fail
    refine (rnumber_is _ _ _ H2.out).mono ?_
    rintro e w' ⟨rfl, rfl⟩
    go_wp2_with fail
    refine (rnumber_is _ _ _ H3.out).mono ?_
    rintro e w' ⟨rfl, rfl⟩
    go_wp2_with fail
    refine (rnumber_is _ _ _ H4.out).mono ?_
    rintro e w' ⟨rfl, rfl⟩
    go_wp2_with fail
    refine (rnumber_is _ _ _ H5.out).mono ?_
    rintro e w' ⟨rfl, rfl⟩
    go_wp2_with fail
    refine (rnumber_is _ _ _ H6.out).mono ?_
    rintro e w' ⟨rfl, rfl⟩
    go_wp2_with fail
    go_ret
    exact ⟨by rw [hr.out]; rfl, by (repeat (first | with_reducible exact Fr.refl _ _ | with_reducible assumption | with_reducible refine Fr.drew ?_ | with_reducible refine Fr.drewN ?_ _ | with_reducible refine Fr.alloc ?_ _ | with_reducible refine Fr.setIn ?_ (by first | exact Or.inl rfl | exact Or.inr (by simp; done) | exact Or.inr (by simp; omega) | exact Or.inr (by omega)) _))⟩
  | true =>
  have H6 := hide h6
  clear h6
  by_cases h7 : 16 < n
  · skip
    have G7 : Hid (decide (es.length ≤ 16) = false) := decide_eq_false (by have := (Hlen.out : n = es.length); omega)
    have hr : Hid (CR.ok ⟨num, kind, by_, dl, to_, want, pr, rs, st, of_, A, n, c, es⟩ = false) := by
      show _ = _
      have := G7.out
      simp only [CR.ok, okL, CR.seven, this, Bool.and_false, Bool.false_and]
    have i2 : (16 : Int) < (n : Int) := by omega
    clear h7
    go_enter Try.func113, Try.ntmps113
    go_wp2_with fail
    refine (rnumber_is _ _ _ H0.out).mono ?_
    rintro e w' ⟨rfl, rfl⟩
    go_wp2_with fail
    refine (rnumber_is _ _ _ H1.out).mono ?_
    rintro e w' ⟨rfl, rfl⟩
    go_wp2_with fail
    refine (rnumber_is _ _ _ H2.out).mono ?_
    rintro e w' ⟨rfl, rfl⟩
    go_wp2_with fail
    refine (rnumber_is _ _ _ H3.out).mono ?_
    rintro e w' ⟨rfl, rfl⟩
    go_wp2_with fail
    refine (rnumber_is _ _ _ H4.out).mono ?_
    rintro e w' ⟨rfl, rfl⟩
    go_wp2_with fail
    refine (rnumber_is _ _ _ H5.out).mono ?_
    rintro e w' ⟨rfl, rfl⟩
    go_wp2_with fail
    refine (rnumber_is _ _ _ H6.out).mono ?_
    rintro e w' ⟨rfl, rfl⟩
    go_wp2_with fail
    go_ret
    exact ⟨by rw [hr.out]; rfl, by (repeat (first | with_reducible exact Fr.refl _ _ | with_reducible assumption | with_reducible refine Fr.drew ?_ | with_reducible refine Fr.drewN ?_ _ | with_reducible refine Fr.alloc ?_ _ | with_reducible refine Fr.setIn ?_ (by first | exact Or.inl rfl | exact Or.inr (by simp; done) | exact Or.inr (by simp; omega) | exact Or.inr (by omega)) _))⟩
  have G7 : Hid (decide (es.length ≤ 16) = true) := decide_eq_true (by have := (Hlen.out : n = es.length); omega)
  have i2 : decide ((16 : Int) < (n : Int)) = false := decide_eq_false (by omega)
  clear h7
  go_enter Try.func113, Try.ntmps113
  go_wp2_with fail
  refine (rnumber_is _ _ _ H0.out).mono ?_
  rintro e w' ⟨rfl, rfl⟩
  go_wp2_with fail
  refine (rnumber_is _ _ _ H1.out).mono ?_
  rintro e w' ⟨rfl, rfl⟩
  go_wp2_with fail
  refine (rnumber_is _ _ _ H2.out).mono ?_
  rintro e w' ⟨rfl, rfl⟩
  go_wp2_with fail
  refine (rnumber_is _ _ _ H3.out).mono ?_
  rintro e w' ⟨rfl, rfl⟩
  go_wp2_with fail
  refine (rnumber_is _ _ _ H4.out).mono ?_
  rintro e w' ⟨rfl, rfl⟩
  go_wp2_with fail
  refine (rnumber_is _ _ _ H5.out).mono ?_
  rintro e w' ⟨rfl, rfl⟩
  go_wp2_with fail
  refine (rnumber_is _ _ _ H6.out).mono ?_
  rintro e w' ⟨rfl, rfl⟩
  go_wp2_with fail
  go_loopw [3] (fun vi wr => ∃ j : Nat, j ≤ n ∧ vi = .int .i64 (j : Int) ∧ Hid ((es.take j).all ER.ok = true) ∧ Hid (Fr (fun _ => False) w wr) ∧ Hid (Bl wr w.heap.size 29 #[.int .i64 num, .int .i64 kind, .int .i64 by_, .int .i64 dl, .int .i64 to_, .int .i64 want, .int .u64 (pr : Int), .int .u64 (rs : Int), .int .u64 (st : Int), .int .i64 of_, .slice A n c])) (fun vi _ => n - (intOf vi).toNat)
  case atStart => exact ⟨0, Nat.zero_le _, rfl, rfl, (Fr.refl _ _).alloc _, Bl.new _ _ _⟩
  case round =>
    obtain ⟨wo, rfl⟩ : ∃ wo, wo = wr := ⟨_, rfl⟩
    obtain ⟨j, hj, rfl, hk, HF, HB⟩ := hrel
    have cx := HB.out.cell' (i := 10) rfl
    by_cases hlt : j < n
    · have hjl : j < es.length := by rw [← (Hlen.out : n = es.length)]; exact hlt
      obtain ⟨b, o, hA, hc⟩ := (HAt.out.quiet HF.out).row hjl
      simp only at hA
      have HE : Hid ((es[j]).at_ wo) := (HAt.out.quiet HF.out).es _ (List.getElem_mem hjl)
      have Htk := hide (all_take hjl)
      have Hall := hide (fun hf => all_false hjl hf)
      obtain ⟨e, he⟩ : ∃ e, es[j] = e := ⟨_, rfl⟩
      simp only at hc
      rw [he] at hc HE Htk Hall
      obtain ⟨acc, item, co, pr2, A2, n2, c2, ws⟩ := e
      have d0 := hc 0 _ rfl
      rw [Nat.add_zero] at d0
      have d1 := hc 1 _ rfl
      have d2 := hc 2 _ rfl
      have d3 := hc 3 _ rfl
      have d4 := hc 4 _ rfl
      subst hA
      have i0 : (0 : Int) ≤ (j : Int) := by omega
      have i1 : (j : Int) < (n : Int) := by omega
      have q1 : IntKind.i64.wrap ((j : Int) + 1) = ((j + 1 : Nat) : Int) := by rw [IntWalk.i64_in _ (by omega)]; omega
      have Hlt := hide hlt
      have HC : Hid (∀ w1, Fr (fun _ => False) wo w1 → Calls Try.prog 112 #[.agg #[.int .i64 acc, .int .i64 item, .int .u64 (co : Int), .int .u64 (pr2 : Int), .slice A2 n2 c2]] w1 fun e w' => e = .returned (.bool (ER.ok ⟨acc, item, co, pr2, A2, n2, c2, ws⟩)) ∧ Fr (fun _ => False) w1 w') := fun w1 hf => rentry_any w1 ⟨acc, item, co, pr2, A2, n2, c2, ws⟩ (HE.out.quiet hf)
      clear hc he hjl hlt hj HE
      go_wp2_with fail
      cases hok : ER.ok ⟨acc, item, co, pr2, A2, n2, c2, ws⟩ with
      | false =>
        have hr : Hid (CR.ok ⟨num, kind, by_, dl, to_, want, pr, rs, st, of_, some ⟨b, o, none⟩, n, c, es⟩ = false) := by
          have := Hall.out hok
          show CR.ok _ = _; simp only [CR.ok, this, Bool.and_false, Bool.false_and]
        refine (HC.out _ (by (repeat (first | with_reducible exact Fr.refl _ _ | with_reducible assumption | with_reducible refine Fr.drew ?_ | with_reducible refine Fr.drewN ?_ _ | with_reducible refine Fr.alloc ?_ _ | with_reducible refine Fr.setIn ?_ (by first | exact Or.inl rfl | exact Or.inr (by simp; done) | exact Or.inr (by simp; omega) | exact Or.inr (by omega)) _)))).mono ?_
        rintro e w1 ⟨rfl, hf1⟩
        have HF1 : Hid (Fr (fun _ => False) w w1) := HF.out.trans (Fr.trans (by (repeat (first | with_reducible exact Fr.refl _ _ | with_reducible assumption | with_reducible refine Fr.drew ?_ | with_reducible refine Fr.drewN ?_ _ | with_reducible refine Fr.alloc ?_ _ | with_reducible refine Fr.setIn ?_ (by first | exact Or.inl rfl | exact Or.inr (by simp; done) | exact Or.inr (by simp; omega) | exact Or.inr (by omega)) _))) hf1)
        rw [hok]
        clear hf1 hok
        go_wp2_with fail
        go_ret
        exact ⟨by rw [hr.out]; rfl, HF1.out⟩
      | true =>
        refine (HC.out _ (by (repeat (first | with_reducible exact Fr.refl _ _ | with_reducible assumption | with_reducible refine Fr.drew ?_ | with_reducible refine Fr.drewN ?_ _ | with_reducible refine Fr.alloc ?_ _ | with_reducible refine Fr.setIn ?_ (by first | exact Or.inl rfl | exact Or.inr (by simp; done) | exact Or.inr (by simp; omega) | exact Or.inr (by omega)) _)))).mono ?_
        rintro e w1 ⟨rfl, hf1⟩
        have hf01 : Fr (fun _ => False) wo w1 := Fr.trans (by (repeat (first | with_reducible exact Fr.refl _ _ | with_reducible assumption | with_reducible refine Fr.drew ?_ | with_reducible refine Fr.drewN ?_ _ | with_reducible refine Fr.alloc ?_ _ | with_reducible refine Fr.setIn ?_ (by first | exact Or.inl rfl | exact Or.inr (by simp; done) | exact Or.inr (by simp; omega) | exact Or.inr (by omega)) _))) hf1
        have HF1 := hide (HF.out.trans hf01)
        have HB1 := hide (HB.out.fr hf01 id)
        have hk2 : Hid ((es.take (j + 1)).all ER.ok = true) := by show _ = _; rw [Htk.out, hk.out, hok]; rfl
        rw [hok]
        clear hf1 hok hf01
        go_wp2_with fail
        have := Hlt.out
        exact ⟨⟨j + 1, by omega, by first | rfl | go_num, hk2, HF1, HB1⟩, by simp [intOf]; try omega⟩
    · have hall : es.all ER.ok = true := by have := hk.out; rwa [List.take_of_length_le (by rw [← (Hlen.out : n = es.length)]; omega)] at this
      have hr : Hid (CR.ok ⟨num, kind, by_, dl, to_, want, pr, rs, st, of_, A, n, c, es⟩ = true) := by
        have e7 := G7.out
        have e8 : okL [num, kind, by_, dl, to_, want, of_] = true := by simp [okL, H0.out, H1.out, H2.out, H3.out, H4.out, H5.out, H6.out]
        show _ = _
        simp only [CR.ok, CR.seven, e7, e8, hall, Bool.and_true]
      obtain rfl : j = n := by omega
      clear hlt hj hall hk
      go_wp2_with fail
      go_ret
      exact ⟨by rw [hr.out]; rfl, HF.out⟩
set_option maxHeartbeats 8000000 in
set_option maxRecDepth 8000 in
theorem MayReply_any (w : World) (r : RR) (h : r.at_ w) :
    Calls Try.prog 80 #[.agg #[.int .i64 r.id, .int .i64 r.err, .int .i64 r.num, .int .u64 (r.co : Int), .slice r.A r.n r.c, .string (strOf r.txt), .int .u32 (r.bits : Int), .int .i64 r.k.num, .int .i64 r.k.kind, .int .i64 r.k.by_, .int .i64 r.k.dl, .int .i64 r.k.to_, .int .i64 r.k.want, .int .u64 (r.k.pr : Int), .int .u64 (r.k.rs : Int), .int .u64 (r.k.st : Int), .int .i64 r.k.of_, .slice r.k.A r.k.n r.k.c]] w fun e w' => e = .returned (.bool r.ok) ∧ Fr (fun _ => False) w w' := by
  have Hlen : Hid (r.n = r.items.length) := h.sl.ilen
  have hle := h.le
  have HAt := hide h
  have HSl := hide h.sl
  obtain ⟨id, err, num, co, A, n, c, items, txt, bits, k⟩ := r
  simp only at Hlen hle HAt HSl ⊢
  obtain ⟨str, hstr⟩ : ∃ str, strOf txt = str := ⟨_, rfl⟩
  obtain ⟨sl, hsl⟩ : ∃ sl, txt.length = sl := ⟨_, rfl⟩
  have hsz : str.size = sl := by rw [← hstr, ← hsl]; exact strOf_size txt
  rw [hstr]
  have Hsl := hide hsl
  have HK : Hid (∀ w1, Fr (fun _ => False) w w1 → Calls Try.prog 113 #[.agg #[.int .i64 k.num, .int .i64 k.kind, .int .i64 k.by_, .int .i64 k.dl, .int .i64 k.to_, .int .i64 k.want, .int .u64 (k.pr : Int), .int .u64 (k.rs : Int), .int .u64 (k.st : Int), .int .i64 k.of_, .slice k.A k.n k.c]] w1 fun e w' => e = .returned (.bool k.ok) ∧ Fr (fun _ => False) w1 w') := fun w1 hf => rcontract_any w1 k (HAt.out.k.quiet hf)
  clear hsl hstr h
  by_cases h0 : id < 0
  · skip
    have G0 : Hid (decide (0 ≤ id) = false) := decide_eq_false (by omega)
    have hr : Hid (RR.ok ⟨id, err, num, co, A, n, c, items, txt, bits, k⟩ = false) := by
      show _ = _
      have := G0.out
      simp only [RR.ok, okL, this, Bool.and_false, Bool.false_and]
    have d : decide (id < 0) = true := decide_eq_true (by assumption)
    go_enter Try.func80, Try.ntmps80
    go_wp2_with fail
    go_ret
    exact ⟨by rw [hr.out]; rfl, by (repeat (first | with_reducible exact Fr.refl _ _ | with_reducible assumption | with_reducible refine Fr.drew ?_ | with_reducible refine Fr.drewN ?_ _ | with_reducible refine Fr.alloc ?_ _ | with_reducible refine Fr.setIn ?_ (by first | exact Or.inl rfl | exact Or.inr (by simp; done) | exact Or.inr (by simp; omega) | exact Or.inr (by omega)) _))⟩
  have G0 : Hid (decide (0 ≤ id) = true) := decide_eq_true (by omega)
  have d0 : decide (id < 0) = false := decide_eq_false (by assumption)
  clear h0
  by_cases h1 : 4294967295 < id
  · skip
    have G1 : Hid (decide (id ≤ 4294967295) = false) := decide_eq_false (by omega)
    have hr : Hid (RR.ok ⟨id, err, num, co, A, n, c, items, txt, bits, k⟩ = false) := by
      show _ = _
      have := G1.out
      simp only [RR.ok, okL, this, Bool.and_false, Bool.false_and]
    have d : decide (4294967295 < id) = true := decide_eq_true (by assumption)
    go_enter Try.func80, Try.ntmps80
    go_wp2_with fail
    go_ret
    exact ⟨by rw [hr.out]; rfl, by (repeat (first | with_reducible exact Fr.refl _ _ | with_reducible assumption | with_reducible refine Fr.drew ?_ | with_reducible refine Fr.drewN ?_ _ | with_reducible refine Fr.alloc ?_ _ | with_reducible refine Fr.setIn ?_ (by first | exact Or.inl rfl | exact Or.inr (by simp; done) | exact Or.inr (by simp; omega) | exact Or.inr (by omega)) _))⟩
  have G1 : Hid (decide (id ≤ 4294967295) = true) := decide_eq_true (by omega)
  have d1 : decide (4294967295 < id) = false := decide_eq_false (by assumption)
  clear h1
  by_cases h2 : err < 0
  · skip
    have G2 : Hid (decide (0 ≤ err) = false) := decide_eq_false (by omega)
    have hr : Hid (RR.ok ⟨id, err, num, co, A, n, c, items, txt, bits, k⟩ = false) := by
      show _ = _
      have := G2.out
      simp only [RR.ok, okL, this, Bool.and_false, Bool.false_and]
    have d : decide (err < 0) = true := decide_eq_true (by assumption)
    go_enter Try.func80, Try.ntmps80
    go_wp2_with fail
    go_ret
    exact ⟨by rw [hr.out]; rfl, by (repeat (first | with_reducible exact Fr.refl _ _ | with_reducible assumption | with_reducible refine Fr.drew ?_ | with_reducible refine Fr.drewN ?_ _ | with_reducible refine Fr.alloc ?_ _ | with_reducible refine Fr.setIn ?_ (by first | exact Or.inl rfl | exact Or.inr (by simp; done) | exact Or.inr (by simp; omega) | exact Or.inr (by omega)) _))⟩
  have G2 : Hid (decide (0 ≤ err) = true) := decide_eq_true (by omega)
  have d2 : decide (err < 0) = false := decide_eq_false (by assumption)
  clear h2
  by_cases h3 : 999 < err
  · skip
    have G3 : Hid (decide (err ≤ 999) = false) := decide_eq_false (by omega)
    have hr : Hid (RR.ok ⟨id, err, num, co, A, n, c, items, txt, bits, k⟩ = false) := by
      show _ = _
      have := G3.out
      simp only [RR.ok, okL, this, Bool.and_false, Bool.false_and]
    have d : decide (999 < err) = true := decide_eq_true (by assumption)
    go_enter Try.func80, Try.ntmps80
    go_wp2_with fail
    go_ret
    exact ⟨by rw [hr.out]; rfl, by (repeat (first | with_reducible exact Fr.refl _ _ | with_reducible assumption | with_reducible refine Fr.drew ?_ | with_reducible refine Fr.drewN ?_ _ | with_reducible refine Fr.alloc ?_ _ | with_reducible refine Fr.setIn ?_ (by first | exact Or.inl rfl | exact Or.inr (by simp; done) | exact Or.inr (by simp; omega) | exact Or.inr (by omega)) _))⟩
  have G3 : Hid (decide (err ≤ 999) = true) := decide_eq_true (by omega)
  have d3 : decide (999 < err) = false := decide_eq_false (by assumption)
  clear h3
  by_cases h4 : 128 < sl
  · skip
    have G4 : Hid (decide (txt.length ≤ 128) = false) := decide_eq_false (by have := (Hsl.out : txt.length = sl); omega)
    have hr : Hid (RR.ok ⟨id, err, num, co, A, n, c, items, txt, bits, k⟩ = false) := by
      show _ = _
      have := G4.out
      simp only [RR.ok, okL, this, Bool.and_false, Bool.false_and]
    have i4 : (128 : Int) < (sl : Int) := by omega
    clear h4
    go_enter Try.func80, Try.ntmps80
    go_wp2_with fail
    go_ret
    exact ⟨by rw [hr.out]; rfl, by (repeat (first | with_reducible exact Fr.refl _ _ | with_reducible assumption | with_reducible refine Fr.drew ?_ | with_reducible refine Fr.drewN ?_ _ | with_reducible refine Fr.alloc ?_ _ | with_reducible refine Fr.setIn ?_ (by first | exact Or.inl rfl | exact Or.inr (by simp; done) | exact Or.inr (by simp; omega) | exact Or.inr (by omega)) _))⟩
  have G4 : Hid (decide (txt.length ≤ 128) = true) := decide_eq_true (by have := (Hsl.out : txt.length = sl); omega)
  have i4 : decide ((128 : Int) < (sl : Int)) = false := decide_eq_false (by omega)
  have i4' : decide (128 < sl) = false := decide_eq_false (by omega)
  clear h4
  cases h5 : okN num with
  | false =>
    have H5 := hide h5
    have hr : Hid (RR.ok ⟨id, err, num, co, A, n, c, items, txt, bits, k⟩ = false) := by
      show _ = _
      simp [RR.ok, okL, h5]
    clear h5
    go_enter Try.func80, Try.ntmps80
    go_wp2_with fail
    refine (rnumber_is _ _ _ H5.out).mono ?_
    rintro e w' ⟨rfl, rfl⟩
    go_wp2_with fail
    go_ret
    exact ⟨by rw [hr.out]; rfl, by (repeat (first | with_reducible exact Fr.refl _ _ | with_reducible assumption | with_reducible refine Fr.drew ?_ | with_reducible refine Fr.drewN ?_ _ | with_reducible refine Fr.alloc ?_ _ | with_reducible refine Fr.setIn ?_ (by first | exact Or.inl rfl | exact Or.inr (by simp; done) | exact Or.inr (by simp; omega) | exact Or.inr (by omega)) _))⟩
  | true =>
  have H5 := hide h5
  clear h5
  by_cases h6 : 512 < n
  · skip
    have G6 : Hid (decide (items.length ≤ 512) = false) := decide_eq_false (by have := (Hlen.out : n = items.length); omega)
    have hr : Hid (RR.ok ⟨id, err, num, co, A, n, c, items, txt, bits, k⟩ = false) := by
      show _ = _
      have := G6.out
      simp only [RR.ok, okL, this, Bool.and_false, Bool.false_and]
    have i6 : (512 : Int) < (n : Int) := by omega
    clear h6
    go_enter Try.func80, Try.ntmps80
    go_wp2_with fail
    refine (rnumber_is _ _ _ H5.out).mono ?_
    rintro e w' ⟨rfl, rfl⟩
    go_wp2_with fail
    go_ret
    exact ⟨by rw [hr.out]; rfl, by (repeat (first | with_reducible exact Fr.refl _ _ | with_reducible assumption | with_reducible refine Fr.drew ?_ | with_reducible refine Fr.drewN ?_ _ | with_reducible refine Fr.alloc ?_ _ | with_reducible refine Fr.setIn ?_ (by first | exact Or.inl rfl | exact Or.inr (by simp; done) | exact Or.inr (by simp; omega) | exact Or.inr (by omega)) _))⟩
  have G6 : Hid (decide (items.length ≤ 512) = true) := decide_eq_true (by have := (Hlen.out : n = items.length); omega)
  have i6 : decide ((512 : Int) < (n : Int)) = false := decide_eq_false (by omega)
  have i6' : decide (512 < n) = false := decide_eq_false (by omega)
  clear h6
  go_enter Try.func80, Try.ntmps80
  go_wp2_with fail
  refine (rnumber_is _ _ _ H5.out).mono ?_
  rintro e w' ⟨rfl, rfl⟩
  go_wp2_with fail
  go_loopw [3] (fun vi wr => ∃ j : Nat, j ≤ n ∧ vi = .int .i64 (j : Int) ∧ Hid (okL items = okL (items.drop j)) ∧ Hid (wr = w.alloc (.cells #[.int .i64 id, .int .i64 err, .int .i64 num, .int .u64 (co : Int), .slice A n c, .string str, .int .u32 (bits : Int), .int .i64 k.num, .int .i64 k.kind, .int .i64 k.by_, .int .i64 k.dl, .int .i64 k.to_, .int .i64 k.want, .int .u64 (k.pr : Int), .int .u64 (k.rs : Int), .int .u64 (k.st : Int), .int .i64 k.of_, .slice k.A k.n k.c] 35))) (fun vi _ => n - (intOf vi).toNat)
  case atStart => exact ⟨0, Nat.zero_le _, rfl, rfl, rfl⟩
  case round =>
    obtain ⟨wo, rfl⟩ : ∃ wo, wo = wr := ⟨_, rfl⟩
    obtain ⟨j, hj, rfl, hk, hw⟩ := hrel
    have hfo : Fr (fun _ => False) w wo := by rw [hw.out]; exact (Fr.refl _ _).alloc _
    have hbx : Bl wo w.heap.size 35 #[.int .i64 id, .int .i64 err, .int .i64 num, .int .u64 (co : Int), .slice A n c, .string str, .int .u32 (bits : Int), .int .i64 k.num, .int .i64 k.kind, .int .i64 k.by_, .int .i64 k.dl, .int .i64 k.to_, .int .i64 k.want, .int .u64 (k.pr : Int), .int .u64 (k.rs : Int), .int .u64 (k.st : Int), .int .i64 k.of_, .slice k.A k.n k.c] := by rw [hw.out]; exact Bl.new _ _ _
    have cx := hbx.cell' (i := 4) rfl
    have HF := hide hfo
    by_cases hlt : j < n
    · have hjl : j < items.length := by rw [← (Hlen.out : n = items.length)]; exact hlt
      obtain ⟨z, hz⟩ : ∃ z, items[j] = z := ⟨_, rfl⟩
      have hd : items.drop j = z :: items.drop (j + 1) := by rw [List.drop_eq_getElem_cons hjl, hz]
      obtain ⟨b, o, rfl, c0⟩ := (HSl.out.quiet hfo).at_ (j := j) (u := .int .i64 z) (by rw [List.getElem?_map, List.getElem?_eq_getElem hjl, hz]; rfl)
      have i0 : (0 : Int) ≤ (j : Int) := by omega
      have i1 : (j : Int) < (n : Int) := by omega
      have q1 : IntKind.i64.wrap ((j : Int) + 1) = ((j + 1 : Nat) : Int) := by rw [IntWalk.i64_in _ (by omega)]; omega
      have Hd := hide hd
      have Hlt := hide hlt
      have HBx := hide hbx
      clear hz hd hjl hlt hj hfo hbx
      cases hz : okN z with
      | false =>
        have Hz := hide hz
        have hr : Hid (RR.ok ⟨id, err, num, co, some ⟨b, o, none⟩, n, c, items, txt, bits, k⟩ = false) := by
          have : okL items = false := by rw [hk.out, Hd.out]; simp [okL, hz]
          show _ = _
          simp only [RR.ok, this, Bool.and_false, Bool.false_and]
        clear hz
        go_wp2_with fail
        refine (rnumber_is _ _ _ Hz.out).mono ?_
        rintro e w' ⟨rfl, rfl⟩
        go_wp2_with fail
        go_ret
        exact ⟨by rw [hr.out]; rfl, HF.out⟩
      | true =>
        have Hz := hide hz
        have hk2 : Hid (okL items = okL (items.drop (j + 1))) := by
          show _ = _
          rw [hk.out, Hd.out]
          simp [okL, hz]
        clear hz hk
        go_wp2_with fail
        refine (rnumber_is _ _ _ Hz.out).mono ?_
        rintro e w' ⟨rfl, rfl⟩
        go_wp2_with fail
        have := Hlt.out
        exact ⟨⟨j + 1, by omega, by first | rfl | go_num, hk2, hw.out⟩, by simp [intOf]; try omega⟩
    · have hall : okL items = true := by rw [hk.out, List.drop_eq_nil_of_le (by rw [← (Hlen.out : n = items.length)]; omega)]; rfl
      obtain rfl : j = n := by omega
      clear hlt hj hk hfo
      have hr : Hid (RR.ok ⟨id, err, num, co, A, j, c, items, txt, bits, k⟩ = CR.ok k) := by
        have e5 : okL [num] = true := by simp [okL, H5.out]
        have e0 := G0.out
        have e1 := G1.out
        have e2 := G2.out
        have e3 := G3.out
        have e4 := G4.out
        have e6 := G6.out
        show _ = _
        simp only [RR.ok, e0, e1, e2, e3, e4, e5, e6, hall, Bool.true_and, Bool.and_true]
      have y7 := hbx.cell' (i := 7) rfl
      have y8 := hbx.cell' (i := 8) rfl
      have y9 := hbx.cell' (i := 9) rfl
      have y10 := hbx.cell' (i := 10) rfl
      have y11 := hbx.cell' (i := 11) rfl
      have y12 := hbx.cell' (i := 12) rfl
      have y13 := hbx.cell' (i := 13) rfl
      have y14 := hbx.cell' (i := 14) rfl
      have y15 := hbx.cell' (i := 15) rfl
      have y16 := hbx.cell' (i := 16) rfl
      have y17 := hbx.cell' (i := 17) rfl
      clear hall hbx
      go_wp2_with fail
      refine (HK.out _ HF.out).mono ?_
      rintro e w1 ⟨rfl, hf1⟩
      have HF1 := hide (HF.out.trans hf1)
      clear hf1 cx y7 y8 y9 y10 y11 y12 y13 y14 y15 y16 y17
      go_wp2_with fail
      go_ret
      exact ⟨by rw [hr.out]; rfl, HF1.out⟩
end Go.Proofs.Ytlcjhbemgagchaa
