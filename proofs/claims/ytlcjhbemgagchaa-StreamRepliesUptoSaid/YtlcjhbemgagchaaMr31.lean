/-
  Texts merged into one, to keep the claim small: Pr3, Pr4.
-/
import Derived.Test.YtlcjhbemgagchaaMr20
import Derived.Test.YtlcjhbemgagchaaMr12
section
/-
  proto: contract (may it be?).
-/
namespace Go.Proofs.Ytlcjhbemgagchaa
open Go.RowKit
set_option linter.unusedVariables false
set_option linter.unusedSimpArgs false
theorem all_take {l : List ER} {j : Nat} (h : j < l.length) : (l.take (j + 1)).all ER.ok = ((l.take j).all ER.ok && (l[j]).ok) := by
  rw [List.take_add_one, List.getElem?_eq_getElem h, List.all_append]
  simp
theorem all_false {l : List ER} {j : Nat} (h : j < l.length) (hf : (l[j]).ok = false) : l.all ER.ok = false := by
  rw [List.all_eq_false]
  exact ⟨l[j], List.getElem_mem h, by rw [hf]; simp⟩
set_option maxHeartbeats 4000000 in
set_option maxRecDepth 8000 in
theorem contract_any (w : World) (r : CR) (h : r.at_ w) :
    Calls Try.prog 106 #[.agg #[.int .i64 r.num, .int .i64 r.kind, .int .i64 r.by_, .int .i64 r.dl, .int .i64 r.to_, .int .i64 r.want, .int .u64 (r.pr : Int), .int .u64 (r.rs : Int), .int .u64 (r.st : Int), .int .i64 r.of_, .slice r.A r.n r.c]] w fun e w' => e = .returned (.bool r.ok) ∧ Fr (fun _ => False) w w' := by
  have HAt := hide h
  have Hlen := hide h.len
  have hle := h.le
  clear h
  obtain ⟨num, kind, by_, dl, to_, want, pr, rs, st, of_, A, n, c, es⟩ := r
  simp only at HAt Hlen hle ⊢
  have HA2 := hide hle
  by_cases h1 : 16 < n
  · have hr : Hid (CR.ok ⟨num, kind, by_, dl, to_, want, pr, rs, st, of_, A, n, c, es⟩ = false) := by
      have : decide (es.length ≤ 16) = false := decide_eq_false (by have := Hlen.out; omega)
      show CR.ok _ = _; simp only [CR.ok, this, Bool.false_and]
    have i2 : (16 : Int) < (n : Int) := by omega
    clear h1
    go_enter Try.func106, Try.ntmps106
    go_wp2_with fail
    go_ret
    exact ⟨by rw [hr.out]; rfl, (Fr.refl _ _).alloc _⟩
  have i2 : decide ((16 : Int) < (n : Int)) = false := decide_eq_false (by omega)
  have hn16 : n ≤ 16 := by omega
  clear h1
  go_enter Try.func106, Try.ntmps106
  go_wp2_with fail
  go_loopw [12] (fun vi wr => ∃ j : Nat, j ≤ n ∧ vi = .int .i64 (j : Int) ∧ Hid ((es.take j).all ER.ok = true) ∧ Hid (Fr (fun _ => False) w wr) ∧ Hid (Bl wr w.heap.size 29 #[.int .i64 num, .int .i64 kind, .int .i64 by_, .int .i64 dl, .int .i64 to_, .int .i64 want, .int .u64 (pr : Int), .int .u64 (rs : Int), .int .u64 (st : Int), .int .i64 of_, .slice A n c])) (fun vi _ => n - (intOf vi).toNat)
  case atStart => exact ⟨0, Nat.zero_le _, rfl, rfl, (Fr.refl _ _).alloc _, Bl.new _ _ _⟩
  case round =>
    obtain ⟨wo, rfl⟩ : ∃ wo, wo = wr := ⟨_, rfl⟩
    obtain ⟨j, hj, rfl, hk, HF, HB⟩ := hrel
    by_cases hlt : j < n
    · have hjl : j < es.length := by rw [← (Hlen.out : n = es.length)]; exact hlt
      obtain ⟨b, o, hA, hc⟩ := (HAt.out.quiet HF.out).row hjl
      simp only at hA
      have HE : Hid ((es[j]).at_ wo) := (HAt.out.quiet HF.out).es _ (List.getElem_mem hjl)
      have Htk := hide (all_take hjl)
      have Hall := hide (fun hf => all_false hjl hf)
      obtain ⟨e, he⟩ : ∃ e, es[j] = e := ⟨_, rfl⟩
      simp only at hc
      rw [he] at hc HE Htk Hall
      obtain ⟨acc, item, co, pr2, A2, n2, c2, ws⟩ := e
      have d0 := hc 0 _ rfl
      rw [Nat.add_zero] at d0
      have d1 := hc 1 _ rfl
      have d2 := hc 2 _ rfl
      have d3 := hc 3 _ rfl
      have d4 := hc 4 _ rfl
      subst hA
      have i0 : (0 : Int) ≤ (j : Int) := by omega
      have i1 : (j : Int) < (n : Int) := by omega
      have q1 : IntKind.i64.wrap ((j : Int) + 1) = ((j + 1 : Nat) : Int) := by rw [IntWalk.i64_in _ (by omega)]; omega
      have Hlt := hide hlt
      have HC : Hid (∀ w1, Fr (fun _ => False) wo w1 → Calls Try.prog 105 #[.agg #[.int .i64 acc, .int .i64 item, .int .u64 (co : Int), .int .u64 (pr2 : Int), .slice A2 n2 c2]] w1 fun e w' => e = .returned (.bool (ER.ok ⟨acc, item, co, pr2, A2, n2, c2, ws⟩)) ∧ Fr (fun _ => False) w1 w') := fun w1 hf => entry_any w1 ⟨acc, item, co, pr2, A2, n2, c2, ws⟩ (HE.out.quiet hf)
      clear hc he hjl hlt hj HE
      go_wp2_with fail
      cases hok : ER.ok ⟨acc, item, co, pr2, A2, n2, c2, ws⟩ with
      | false =>
        have hr : Hid (CR.ok ⟨num, kind, by_, dl, to_, want, pr, rs, st, of_, some ⟨b, o, none⟩, n, c, es⟩ = false) := by
          have := Hall.out hok
          show CR.ok _ = _; simp only [CR.ok, this, Bool.and_false, Bool.false_and]
        refine (HC.out _ (by (repeat (first | with_reducible exact Fr.refl _ _ | with_reducible assumption | with_reducible refine Fr.drew ?_ | with_reducible refine Fr.drewN ?_ _ | with_reducible refine Fr.alloc ?_ _ | with_reducible refine Fr.setIn ?_ (by first | exact Or.inl rfl | exact Or.inr (by simp; done) | exact Or.inr (by simp; omega) | exact Or.inr (by omega)) _)))).mono ?_
        rintro e w1 ⟨rfl, hf1⟩
        have HF1 : Hid (Fr (fun _ => False) w w1) := HF.out.trans (Fr.trans (by (repeat (first | with_reducible exact Fr.refl _ _ | with_reducible assumption | with_reducible refine Fr.drew ?_ | with_reducible refine Fr.drewN ?_ _ | with_reducible refine Fr.alloc ?_ _ | with_reducible refine Fr.setIn ?_ (by first | exact Or.inl rfl | exact Or.inr (by simp; done) | exact Or.inr (by simp; omega) | exact Or.inr (by omega)) _))) hf1)
        rw [hok]
        clear hf1 hok
        go_wp2_with fail
        go_ret
        exact ⟨by rw [hr.out]; rfl, HF1.out⟩
      | true =>
        refine (HC.out _ (by (repeat (first | with_reducible exact Fr.refl _ _ | with_reducible assumption | with_reducible refine Fr.drew ?_ | with_reducible refine Fr.drewN ?_ _ | with_reducible refine Fr.alloc ?_ _ | with_reducible refine Fr.setIn ?_ (by first | exact Or.inl rfl | exact Or.inr (by simp; done) | exact Or.inr (by simp; omega) | exact Or.inr (by omega)) _)))).mono ?_
        rintro e w1 ⟨rfl, hf1⟩
        have hf01 : Fr (fun _ => False) wo w1 := Fr.trans (by (repeat (first | with_reducible exact Fr.refl _ _ | with_reducible assumption | with_reducible refine Fr.drew ?_ | with_reducible refine Fr.drewN ?_ _ | with_reducible refine Fr.alloc ?_ _ | with_reducible refine Fr.setIn ?_ (by first | exact Or.inl rfl | exact Or.inr (by simp; done) | exact Or.inr (by simp; omega) | exact Or.inr (by omega)) _))) hf1
        have HF1 := hide (HF.out.trans hf01)
        have HB1 := hide (HB.out.fr hf01 id)
        have hk2 : Hid ((es.take (j + 1)).all ER.ok = true) := by show _ = _; rw [Htk.out, hk.out, hok]; rfl
        rw [hok]
        clear hf1 hok hf01
        go_wp2_with fail
        have := Hlt.out
        exact ⟨⟨j + 1, by omega, by first | rfl | go_num, hk2, HF1, HB1⟩, by simp [intOf]; try omega⟩
    · have hall : es.all ER.ok = true := by have := hk.out; rwa [List.take_of_length_le (by rw [← (Hlen.out : n = es.length)]; omega)] at this
      have hr : Hid (CR.ok ⟨num, kind, by_, dl, to_, want, pr, rs, st, of_, A, n, c, es⟩ = okL [num, kind, by_, dl, to_, want, of_]) := by
        have : decide (es.length ≤ 16) = true := decide_eq_true (by have := (Hlen.out : n = es.length); omega)
        show CR.ok _ = _; simp only [CR.ok, this, hall, Bool.true_and]; rfl
      have HN := hide (numbers_lit wo [num, kind, by_, dl, to_, want, of_] wo.heap.size 7 rfl rfl (by omega) #[.int .i64 num, .int .i64 kind, .int .i64 by_, .int .i64 dl, .int .i64 to_, .int .i64 want, .int .i64 of_] rfl rfl)
      obtain rfl : j = n := by omega
      have c0 := HB.out.cell' (i := 0) rfl
      have c1 := HB.out.cell' (i := 1) rfl
      have c2 := HB.out.cell' (i := 2) rfl
      have c3 := HB.out.cell' (i := 3) rfl
      have c4 := HB.out.cell' (i := 4) rfl
      have c5 := HB.out.cell' (i := 5) rfl
      have c9 := HB.out.cell' (i := 9) rfl
      clear hlt hj hall hk
      go_wp2_with fail
      refine HN.out.mono ?_
      rintro e w' ⟨rfl, rfl⟩
      clear c0 c1 c2 c3 c4 c5 c9
      go_wp2_with fail
      go_ret
      exact ⟨by rw [hr.out]; rfl, HF.out.alloc _⟩
end Go.Proofs.Ytlcjhbemgagchaa
end

section
/-
  proto: reply (may it be?). (printed by pr_reply.py)
-/
namespace Go.Proofs.Ytlcjhbemgagchaa
open Go.RowKit
set_option linter.unusedVariables false
set_option linter.unusedSimpArgs false
set_option maxHeartbeats 4000000 in
set_option maxRecDepth 8000 in
theorem reply_any (w : World) (r : RR) (h : r.at_ w) :
    Calls Try.prog 82 #[.agg #[.int .i64 r.id, .int .i64 r.err, .int .i64 r.num, .int .u64 (r.co : Int), .slice r.A r.n r.c, .string (strOf r.txt), .int .u32 (r.bits : Int), .int .i64 r.k.num, .int .i64 r.k.kind, .int .i64 r.k.by_, .int .i64 r.k.dl, .int .i64 r.k.to_, .int .i64 r.k.want, .int .u64 (r.k.pr : Int), .int .u64 (r.k.rs : Int), .int .u64 (r.k.st : Int), .int .i64 r.k.of_, .slice r.k.A r.k.n r.k.c]] w fun e w' => e = .returned (.bool r.ok) ∧ Fr (fun _ => False) w w' := by
  have hlen : r.n = r.items.length := h.sl.ilen
  have hle := h.le
  have HAt := hide h
  obtain ⟨id, err, num, co, A, n, c, items, txt, bits, k⟩ := r
  simp only at hlen hle HAt ⊢
  obtain ⟨str, hstr⟩ : ∃ str, strOf txt = str := ⟨_, rfl⟩
  obtain ⟨sl, hsl⟩ : ∃ sl, txt.length = sl := ⟨_, rfl⟩
  have hsz : str.size = sl := by rw [← hstr, ← hsl]; exact strOf_size txt
  rw [hstr]
  have Hlen := hide hlen
  have Hsl := hide hsl
  have HK : Hid (∀ w1, Fr (fun _ => False) w w1 → Calls Try.prog 106 #[.agg #[.int .i64 k.num, .int .i64 k.kind, .int .i64 k.by_, .int .i64 k.dl, .int .i64 k.to_, .int .i64 k.want, .int .u64 (k.pr : Int), .int .u64 (k.rs : Int), .int .u64 (k.st : Int), .int .i64 k.of_, .slice k.A k.n k.c]] w1 fun e w' => e = .returned (.bool k.ok) ∧ Fr (fun _ => False) w1 w') := fun w1 hf => contract_any w1 k (HAt.out.k.quiet hf)
  have HI : Hid (∀ w1, Fr (fun _ => False) w w1 → Calls Try.prog 104 #[.slice A n c] w1 fun e w' => e = .returned (.bool (okL items)) ∧ w1 = w') := fun w1 hf => numbers_any w1 items A n c hle (HAt.out.sl.quiet hf)
  have HN := hide (fun b (hb : okL [num] = b) => numbers_lit (w.alloc (.cells #[.int .i64 id, .int .i64 err, .int .i64 num, .int .u64 (co : Int), .slice A n c, .string str, .int .u32 (bits : Int), .int .i64 k.num, .int .i64 k.kind, .int .i64 k.by_, .int .i64 k.dl, .int .i64 k.to_, .int .i64 k.want, .int .u64 (k.pr : Int), .int .u64 (k.rs : Int), .int .u64 (k.st : Int), .int .i64 k.of_, .slice k.A k.n k.c] 35)) [num] (w.heap.size + 1) 1 (by simp) rfl (by omega) #[.int .i64 num] rfl hb)
  clear hlen hsl hstr h
  by_cases h0 : 0 ≤ id
  rotate_left
  · skip
    have P0 : Hid (decide ((0 : Int) ≤ id) = false) := decide_eq_false h0
    have d0 : decide ((0 : Int) ≤ id) = false := P0.out
    clear h0
    have hr : Hid (RR.ok ⟨id, err, num, co, A, n, c, items, txt, bits, k⟩ = false) := by
      show RR.ok _ = _
      unfold RR.ok
      simp only [P0.out, Bool.and_true, Bool.true_and, Bool.and_false, Bool.false_and]
    go_enter Try.func82, Try.ntmps82
    go_wp2_with fail
    go_ret
    exact ⟨by rw [hr.out]; rfl, (Fr.refl _ _).alloc _⟩
  have P0 : Hid (decide ((0 : Int) ≤ id) = true) := decide_eq_true h0
  have d0 : decide ((0 : Int) ≤ id) = true := P0.out
  by_cases h1 : id ≤ 4294967295
  rotate_left
  · skip
    have P1 : Hid (decide (id ≤ (4294967295 : Int)) = false) := decide_eq_false h1
    have d1 : decide (id ≤ (4294967295 : Int)) = false := P1.out
    clear h1
    have hr : Hid (RR.ok ⟨id, err, num, co, A, n, c, items, txt, bits, k⟩ = false) := by
      show RR.ok _ = _
      unfold RR.ok
      simp only [P1.out, Bool.and_true, Bool.true_and, Bool.and_false, Bool.false_and]
    go_enter Try.func82, Try.ntmps82
    go_wp2_with fail
    go_ret
    exact ⟨by rw [hr.out]; rfl, (Fr.refl _ _).alloc _⟩
  have P1 : Hid (decide (id ≤ (4294967295 : Int)) = true) := decide_eq_true h1
  have d1 : decide (id ≤ (4294967295 : Int)) = true := P1.out
  by_cases h2 : 0 ≤ err
  rotate_left
  · skip
    have P2 : Hid (decide ((0 : Int) ≤ err) = false) := decide_eq_false h2
    have d2 : decide ((0 : Int) ≤ err) = false := P2.out
    clear h2
    have hr : Hid (RR.ok ⟨id, err, num, co, A, n, c, items, txt, bits, k⟩ = false) := by
      show RR.ok _ = _
      unfold RR.ok
      simp only [P2.out, Bool.and_true, Bool.true_and, Bool.and_false, Bool.false_and]
    go_enter Try.func82, Try.ntmps82
    go_wp2_with fail
    go_ret
    exact ⟨by rw [hr.out]; rfl, (Fr.refl _ _).alloc _⟩
  have P2 : Hid (decide ((0 : Int) ≤ err) = true) := decide_eq_true h2
  have d2 : decide ((0 : Int) ≤ err) = true := P2.out
  by_cases h3 : err ≤ 999
  rotate_left
  · skip
    have P3 : Hid (decide (err ≤ (999 : Int)) = false) := decide_eq_false h3
    have d3 : decide (err ≤ (999 : Int)) = false := P3.out
    clear h3
    have hr : Hid (RR.ok ⟨id, err, num, co, A, n, c, items, txt, bits, k⟩ = false) := by
      show RR.ok _ = _
      unfold RR.ok
      simp only [P3.out, Bool.and_true, Bool.true_and, Bool.and_false, Bool.false_and]
    go_enter Try.func82, Try.ntmps82
    go_wp2_with fail
    go_ret
    exact ⟨by rw [hr.out]; rfl, (Fr.refl _ _).alloc _⟩
  have P3 : Hid (decide (err ≤ (999 : Int)) = true) := decide_eq_true h3
  have d3 : decide (err ≤ (999 : Int)) = true := P3.out
  by_cases h4 : (sl : Int) ≤ 128
  rotate_left
  · skip
    have P4 : Hid (decide (txt.length ≤ 128) = false) := decide_eq_false (by have := (Hsl.out : txt.length = sl); omega)
    have d4 : decide ((sl : Int) ≤ 128) = false := decide_eq_false (by omega)
    have e4 : decide (sl ≤ 128) = false := decide_eq_false (by omega)
    clear h4
    have hr : Hid (RR.ok ⟨id, err, num, co, A, n, c, items, txt, bits, k⟩ = false) := by
      show RR.ok _ = _
      unfold RR.ok
      simp only [P4.out, Bool.and_true, Bool.true_and, Bool.and_false, Bool.false_and]
    go_enter Try.func82, Try.ntmps82
    go_wp2_with fail
    go_ret
    exact ⟨by rw [hr.out]; rfl, (Fr.refl _ _).alloc _⟩
  have P4 : Hid (decide (txt.length ≤ 128) = true) := decide_eq_true (by have := (Hsl.out : txt.length = sl); omega)
  have d4 : decide ((sl : Int) ≤ 128) = true := decide_eq_true (by omega)
  have e4 : decide (sl ≤ 128) = true := decide_eq_true (by omega)
  clear h4
  cases h5 : okL [num] with
  | false =>
    have P5 := hide h5
    have hr : Hid (RR.ok ⟨id, err, num, co, A, n, c, items, txt, bits, k⟩ = false) := by
      show RR.ok _ = _
      unfold RR.ok
      simp only [P5.out, Bool.and_true, Bool.true_and, Bool.and_false, Bool.false_and]
    go_enter Try.func82, Try.ntmps82
    go_wp2_with fail
    refine (HN.out _ h5).mono ?_
    rintro e w' ⟨rfl, rfl⟩
    go_wp2_with fail
    go_ret
    exact ⟨by rw [hr.out]; rfl, ((Fr.refl _ _).alloc _).alloc _⟩
  | true =>
    have P5 := hide h5
    by_cases h6 : (n : Int) ≤ 512
    rotate_left
    · skip
      have P6 : Hid (decide (items.length ≤ 512) = false) := decide_eq_false (by have := (Hlen.out : n = items.length); omega)
      have d6 : decide ((n : Int) ≤ 512) = false := decide_eq_false (by omega)
      have e6 : decide (n ≤ 512) = false := decide_eq_false (by omega)
      clear h6
      have hr : Hid (RR.ok ⟨id, err, num, co, A, n, c, items, txt, bits, k⟩ = false) := by
        show RR.ok _ = _
        unfold RR.ok
        simp only [P6.out, Bool.and_true, Bool.true_and, Bool.and_false, Bool.false_and]
      go_enter Try.func82, Try.ntmps82
      go_wp2_with fail
      refine (HN.out _ h5).mono ?_
      rintro e w' ⟨rfl, rfl⟩
      go_wp2_with fail
      go_ret
      exact ⟨by rw [hr.out]; rfl, ((Fr.refl _ _).alloc _).alloc _⟩
    have P6 : Hid (decide (items.length ≤ 512) = true) := decide_eq_true (by have := (Hlen.out : n = items.length); omega)
    have d6 : decide ((n : Int) ≤ 512) = true := decide_eq_true (by omega)
    have e6 : decide (n ≤ 512) = true := decide_eq_true (by omega)
    clear h6
    cases h7 : okL items with
    | false =>
      have P7 := hide h7
      have hr : Hid (RR.ok ⟨id, err, num, co, A, n, c, items, txt, bits, k⟩ = false) := by
        show RR.ok _ = _
        unfold RR.ok
        simp only [P7.out, Bool.and_true, Bool.true_and, Bool.and_false, Bool.false_and]
      go_enter Try.func82, Try.ntmps82
      go_wp2_with fail
      refine (HN.out _ h5).mono ?_
      rintro e w' ⟨rfl, rfl⟩
      go_wp2_with fail
      refine (HI.out _ (((Fr.refl _ _).alloc _).alloc _)).mono ?_
      rw [h7]
      rintro e w' ⟨rfl, rfl⟩
      go_wp2_with fail
      go_ret
      exact ⟨by rw [hr.out]; rfl, ((Fr.refl _ _).alloc _).alloc _⟩
    | true =>
      have P7 := hide h7
      cases h8 : CR.ok k with
      | false =>
        have P8 := hide h8
        have hr : Hid (RR.ok ⟨id, err, num, co, A, n, c, items, txt, bits, k⟩ = false) := by
          show RR.ok _ = _
          unfold RR.ok
          simp only [P8.out, Bool.and_true, Bool.true_and, Bool.and_false, Bool.false_and]
        go_enter Try.func82, Try.ntmps82
        go_wp2_with fail
        refine (HN.out _ h5).mono ?_
        rintro e w' ⟨rfl, rfl⟩
        go_wp2_with fail
        refine (HI.out _ (((Fr.refl _ _).alloc _).alloc _)).mono ?_
        rw [h7]
        rintro e w' ⟨rfl, rfl⟩
        go_wp2_with fail
        refine (HK.out _ (((Fr.refl _ _).alloc _).alloc _)).mono ?_
        rw [h8]
        rintro e w' ⟨rfl, hf⟩
        have HF := hide ((((Fr.refl (fun _ => False) w).alloc _).alloc _).trans hf)
        clear hf
        go_wp2_with fail
        go_ret
        exact ⟨by rw [hr.out]; rfl, HF.out⟩
      | true =>
        have P8 := hide h8
        have hr : Hid (RR.ok ⟨id, err, num, co, A, n, c, items, txt, bits, k⟩ = true) := by
          show RR.ok _ = _
          unfold RR.ok
          simp only [P0.out, P1.out, P2.out, P3.out, P4.out, P5.out, P6.out, P7.out, P8.out, Bool.and_true, Bool.true_and, Bool.and_false, Bool.false_and]
        go_enter Try.func82, Try.ntmps82
        go_wp2_with fail
        refine (HN.out _ h5).mono ?_
        rintro e w' ⟨rfl, rfl⟩
        go_wp2_with fail
        refine (HI.out _ (((Fr.refl _ _).alloc _).alloc _)).mono ?_
        rw [h7]
        rintro e w' ⟨rfl, rfl⟩
        go_wp2_with fail
        refine (HK.out _ (((Fr.refl _ _).alloc _).alloc _)).mono ?_
        rw [h8]
        rintro e w' ⟨rfl, hf⟩
        have HF := hide ((((Fr.refl (fun _ => False) w).alloc _).alloc _).trans hf)
        clear hf
        go_wp2_with fail
        go_ret
        exact ⟨by rw [hr.out]; rfl, HF.out⟩
end Go.Proofs.Ytlcjhbemgagchaa
end
