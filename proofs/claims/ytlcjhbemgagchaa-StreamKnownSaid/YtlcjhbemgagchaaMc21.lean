/-
  Texts merged into one, to keep the claim small: Pr3, Pr4, PdD.
-/
import Derived.Test.YtlcjhbemgagchaaMc14
import Derived.Test.YtlcjhbemgagchaaMc8
import Derived.Test.YtlcjhbemgagchaaMc19
import Derived.Deep.CutBlock
section
/-
  proto: contract (may it be?).
-/
namespace Go.Proofs.Ytlcjhbemgagchaa
open Go.RowKit
set_option linter.unusedVariables false
set_option linter.unusedSimpArgs false
theorem all_take {l : List ER} {j : Nat} (h : j < l.length) : (l.take (j + 1)).all ER.ok = ((l.take j).all ER.ok && (l[j]).ok) := by
  rw [List.take_add_one, List.getElem?_eq_getElem h, List.all_append]
  simp
theorem all_false {l : List ER} {j : Nat} (h : j < l.length) (hf : (l[j]).ok = false) : l.all ER.ok = false := by
  rw [List.all_eq_false]
  exact ⟨l[j], List.getElem_mem h, by rw [hf]; simp⟩
set_option maxHeartbeats 4000000 in
set_option maxRecDepth 8000 in
theorem contract_any (w : World) (r : CR) (h : r.at_ w) :
    Calls Try.prog 106 #[.agg #[.int .i64 r.num, .int .i64 r.kind, .int .i64 r.by_, .int .i64 r.dl, .int .i64 r.to_, .int .i64 r.want, .int .u64 (r.pr : Int), .int .u64 (r.rs : Int), .int .u64 (r.st : Int), .int .i64 r.of_, .slice r.A r.n r.c]] w fun e w' => e = .returned (.bool r.ok) ∧ Fr (fun _ => False) w w' := by
  have HAt := hide h
  have Hlen := hide h.len
  have hle := h.le
  clear h
  obtain ⟨num, kind, by_, dl, to_, want, pr, rs, st, of_, A, n, c, es⟩ := r
  simp only at HAt Hlen hle ⊢
  have HA2 := hide hle
  by_cases h1 : 16 < n
  · have hr : Hid (CR.ok ⟨num, kind, by_, dl, to_, want, pr, rs, st, of_, A, n, c, es⟩ = false) := by
      have : decide (es.length ≤ 16) = false := decide_eq_false (by have := Hlen.out; omega)
      show CR.ok _ = _; simp only [CR.ok, this, Bool.false_and]
    have i2 : (16 : Int) < (n : Int) := by omega
    clear h1
    go_enter Try.func106, Try.ntmps106
    go_wp2_with fail
    go_ret
    exact ⟨by rw [hr.out]; rfl, (Fr.refl _ _).alloc _⟩
  have i2 : decide ((16 : Int) < (n : Int)) = false := decide_eq_false (by omega)
  have hn16 : n ≤ 16 := by omega
  clear h1
  go_enter Try.func106, Try.ntmps106
  go_wp2_with fail
  go_loopw [12] (fun vi wr => ∃ j : Nat, j ≤ n ∧ vi = .int .i64 (j : Int) ∧ Hid ((es.take j).all ER.ok = true) ∧ Hid (Fr (fun _ => False) w wr) ∧ Hid (Bl wr w.heap.size 29 #[.int .i64 num, .int .i64 kind, .int .i64 by_, .int .i64 dl, .int .i64 to_, .int .i64 want, .int .u64 (pr : Int), .int .u64 (rs : Int), .int .u64 (st : Int), .int .i64 of_, .slice A n c])) (fun vi _ => n - (intOf vi).toNat)
  case atStart => exact ⟨0, Nat.zero_le _, rfl, rfl, (Fr.refl _ _).alloc _, Bl.new _ _ _⟩
  case round =>
    obtain ⟨wo, rfl⟩ : ∃ wo, wo = wr := ⟨_, rfl⟩
    obtain ⟨j, hj, rfl, hk, HF, HB⟩ := hrel
    by_cases hlt : j < n
    · have hjl : j < es.length := by rw [← (Hlen.out : n = es.length)]; exact hlt
      obtain ⟨b, o, hA, hc⟩ := (HAt.out.quiet HF.out).row hjl
      simp only at hA
      have HE : Hid ((es[j]).at_ wo) := (HAt.out.quiet HF.out).es _ (List.getElem_mem hjl)
      have Htk := hide (all_take hjl)
      have Hall := hide (fun hf => all_false hjl hf)
      obtain ⟨e, he⟩ : ∃ e, es[j] = e := ⟨_, rfl⟩
      simp only at hc
      rw [he] at hc HE Htk Hall
      obtain ⟨acc, item, co, pr2, A2, n2, c2, ws⟩ := e
      have d0 := hc 0 _ rfl
      rw [Nat.add_zero] at d0
      have d1 := hc 1 _ rfl
      have d2 := hc 2 _ rfl
      have d3 := hc 3 _ rfl
      have d4 := hc 4 _ rfl
      subst hA
      have i0 : (0 : Int) ≤ (j : Int) := by omega
      have i1 : (j : Int) < (n : Int) := by omega
      have q1 : IntKind.i64.wrap ((j : Int) + 1) = ((j + 1 : Nat) : Int) := by rw [IntWalk.i64_in _ (by omega)]; omega
      have Hlt := hide hlt
      have HC : Hid (∀ w1, Fr (fun _ => False) wo w1 → Calls Try.prog 105 #[.agg #[.int .i64 acc, .int .i64 item, .int .u64 (co : Int), .int .u64 (pr2 : Int), .slice A2 n2 c2]] w1 fun e w' => e = .returned (.bool (ER.ok ⟨acc, item, co, pr2, A2, n2, c2, ws⟩)) ∧ Fr (fun _ => False) w1 w') := fun w1 hf => entry_any w1 ⟨acc, item, co, pr2, A2, n2, c2, ws⟩ (HE.out.quiet hf)
      clear hc he hjl hlt hj HE
      go_wp2_with fail
      cases hok : ER.ok ⟨acc, item, co, pr2, A2, n2, c2, ws⟩ with
      | false =>
        have hr : Hid (CR.ok ⟨num, kind, by_, dl, to_, want, pr, rs, st, of_, some ⟨b, o, none⟩, n, c, es⟩ = false) := by
          have := Hall.out hok
          show CR.ok _ = _; simp only [CR.ok, this, Bool.and_false, Bool.false_and]
        refine (HC.out _ (by (repeat (first | with_reducible exact Fr.refl _ _ | with_reducible assumption | with_reducible refine Fr.drew ?_ | with_reducible refine Fr.drewN ?_ _ | with_reducible refine Fr.alloc ?_ _ | with_reducible refine Fr.setIn ?_ (by first | exact Or.inl rfl | exact Or.inr (by simp; done) | exact Or.inr (by simp; omega) | exact Or.inr (by omega)) _)))).mono ?_
        rintro e w1 ⟨rfl, hf1⟩
        have HF1 : Hid (Fr (fun _ => False) w w1) := HF.out.trans (Fr.trans (by (repeat (first | with_reducible exact Fr.refl _ _ | with_reducible assumption | with_reducible refine Fr.drew ?_ | with_reducible refine Fr.drewN ?_ _ | with_reducible refine Fr.alloc ?_ _ | with_reducible refine Fr.setIn ?_ (by first | exact Or.inl rfl | exact Or.inr (by simp; done) | exact Or.inr (by simp; omega) | exact Or.inr (by omega)) _))) hf1)
        rw [hok]
        clear hf1 hok
        go_wp2_with fail
        go_ret
        exact ⟨by rw [hr.out]; rfl, HF1.out⟩
      | true =>
        refine (HC.out _ (by (repeat (first | with_reducible exact Fr.refl _ _ | with_reducible assumption | with_reducible refine Fr.drew ?_ | with_reducible refine Fr.drewN ?_ _ | with_reducible refine Fr.alloc ?_ _ | with_reducible refine Fr.setIn ?_ (by first | exact Or.inl rfl | exact Or.inr (by simp; done) | exact Or.inr (by simp; omega) | exact Or.inr (by omega)) _)))).mono ?_
        rintro e w1 ⟨rfl, hf1⟩
        have hf01 : Fr (fun _ => False) wo w1 := Fr.trans (by (repeat (first | with_reducible exact Fr.refl _ _ | with_reducible assumption | with_reducible refine Fr.drew ?_ | with_reducible refine Fr.drewN ?_ _ | with_reducible refine Fr.alloc ?_ _ | with_reducible refine Fr.setIn ?_ (by first | exact Or.inl rfl | exact Or.inr (by simp; done) | exact Or.inr (by simp; omega) | exact Or.inr (by omega)) _))) hf1
        have HF1 := hide (HF.out.trans hf01)
        have HB1 := hide (HB.out.fr hf01 id)
        have hk2 : Hid ((es.take (j + 1)).all ER.ok = true) := by show _ = _; rw [Htk.out, hk.out, hok]; rfl
        rw [hok]
        clear hf1 hok hf01
        go_wp2_with fail
        have := Hlt.out
        exact ⟨⟨j + 1, by omega, by first | rfl | go_num, hk2, HF1, HB1⟩, by simp [intOf]; try omega⟩
    · have hall : es.all ER.ok = true := by have := hk.out; rwa [List.take_of_length_le (by rw [← (Hlen.out : n = es.length)]; omega)] at this
      have hr : Hid (CR.ok ⟨num, kind, by_, dl, to_, want, pr, rs, st, of_, A, n, c, es⟩ = okL [num, kind, by_, dl, to_, want, of_]) := by
        have : decide (es.length ≤ 16) = true := decide_eq_true (by have := (Hlen.out : n = es.length); omega)
        show CR.ok _ = _; simp only [CR.ok, this, hall, Bool.true_and]; rfl
      have HN := hide (numbers_lit wo [num, kind, by_, dl, to_, want, of_] wo.heap.size 7 rfl rfl (by omega) #[.int .i64 num, .int .i64 kind, .int .i64 by_, .int .i64 dl, .int .i64 to_, .int .i64 want, .int .i64 of_] rfl rfl)
      obtain rfl : j = n := by omega
      have c0 := HB.out.cell' (i := 0) rfl
      have c1 := HB.out.cell' (i := 1) rfl
      have c2 := HB.out.cell' (i := 2) rfl
      have c3 := HB.out.cell' (i := 3) rfl
      have c4 := HB.out.cell' (i := 4) rfl
      have c5 := HB.out.cell' (i := 5) rfl
      have c9 := HB.out.cell' (i := 9) rfl
      clear hlt hj hall hk
      go_wp2_with fail
      refine HN.out.mono ?_
      rintro e w' ⟨rfl, rfl⟩
      clear c0 c1 c2 c3 c4 c5 c9
      go_wp2_with fail
      go_ret
      exact ⟨by rw [hr.out]; rfl, HF.out.alloc _⟩
end Go.Proofs.Ytlcjhbemgagchaa
end

section
/-
  proto: reply (may it be?). (printed by pr_reply.py)
-/
namespace Go.Proofs.Ytlcjhbemgagchaa
open Go.RowKit
set_option linter.unusedVariables false
set_option linter.unusedSimpArgs false
set_option maxHeartbeats 4000000 in
set_option maxRecDepth 8000 in
theorem reply_any (w : World) (r : RR) (h : r.at_ w) :
    Calls Try.prog 82 #[.agg #[.int .i64 r.id, .int .i64 r.err, .int .i64 r.num, .int .u64 (r.co : Int), .slice r.A r.n r.c, .string (strOf r.txt), .int .u32 (r.bits : Int), .int .i64 r.k.num, .int .i64 r.k.kind, .int .i64 r.k.by_, .int .i64 r.k.dl, .int .i64 r.k.to_, .int .i64 r.k.want, .int .u64 (r.k.pr : Int), .int .u64 (r.k.rs : Int), .int .u64 (r.k.st : Int), .int .i64 r.k.of_, .slice r.k.A r.k.n r.k.c]] w fun e w' => e = .returned (.bool r.ok) ∧ Fr (fun _ => False) w w' := by
  have hlen : r.n = r.items.length := h.sl.ilen
  have hle := h.le
  have HAt := hide h
  obtain ⟨id, err, num, co, A, n, c, items, txt, bits, k⟩ := r
  simp only at hlen hle HAt ⊢
  obtain ⟨str, hstr⟩ : ∃ str, strOf txt = str := ⟨_, rfl⟩
  obtain ⟨sl, hsl⟩ : ∃ sl, txt.length = sl := ⟨_, rfl⟩
  have hsz : str.size = sl := by rw [← hstr, ← hsl]; exact strOf_size txt
  rw [hstr]
  have Hlen := hide hlen
  have Hsl := hide hsl
  have HK : Hid (∀ w1, Fr (fun _ => False) w w1 → Calls Try.prog 106 #[.agg #[.int .i64 k.num, .int .i64 k.kind, .int .i64 k.by_, .int .i64 k.dl, .int .i64 k.to_, .int .i64 k.want, .int .u64 (k.pr : Int), .int .u64 (k.rs : Int), .int .u64 (k.st : Int), .int .i64 k.of_, .slice k.A k.n k.c]] w1 fun e w' => e = .returned (.bool k.ok) ∧ Fr (fun _ => False) w1 w') := fun w1 hf => contract_any w1 k (HAt.out.k.quiet hf)
  have HI : Hid (∀ w1, Fr (fun _ => False) w w1 → Calls Try.prog 104 #[.slice A n c] w1 fun e w' => e = .returned (.bool (okL items)) ∧ w1 = w') := fun w1 hf => numbers_any w1 items A n c hle (HAt.out.sl.quiet hf)
  have HN := hide (fun b (hb : okL [num] = b) => numbers_lit (w.alloc (.cells #[.int .i64 id, .int .i64 err, .int .i64 num, .int .u64 (co : Int), .slice A n c, .string str, .int .u32 (bits : Int), .int .i64 k.num, .int .i64 k.kind, .int .i64 k.by_, .int .i64 k.dl, .int .i64 k.to_, .int .i64 k.want, .int .u64 (k.pr : Int), .int .u64 (k.rs : Int), .int .u64 (k.st : Int), .int .i64 k.of_, .slice k.A k.n k.c] 35)) [num] (w.heap.size + 1) 1 (by simp) rfl (by omega) #[.int .i64 num] rfl hb)
  clear hlen hsl hstr h
  by_cases h0 : 0 ≤ id
  rotate_left
  · skip
    have P0 : Hid (decide ((0 : Int) ≤ id) = false) := decide_eq_false h0
    have d0 : decide ((0 : Int) ≤ id) = false := P0.out
    clear h0
    have hr : Hid (RR.ok ⟨id, err, num, co, A, n, c, items, txt, bits, k⟩ = false) := by
      show RR.ok _ = _
      unfold RR.ok
      simp only [P0.out, Bool.and_true, Bool.true_and, Bool.and_false, Bool.false_and]
    go_enter Try.func82, Try.ntmps82
    go_wp2_with fail
    go_ret
    exact ⟨by rw [hr.out]; rfl, (Fr.refl _ _).alloc _⟩
  have P0 : Hid (decide ((0 : Int) ≤ id) = true) := decide_eq_true h0
  have d0 : decide ((0 : Int) ≤ id) = true := P0.out
  by_cases h1 : id ≤ 4294967295
  rotate_left
  · skip
    have P1 : Hid (decide (id ≤ (4294967295 : Int)) = false) := decide_eq_false h1
    have d1 : decide (id ≤ (4294967295 : Int)) = false := P1.out
    clear h1
    have hr : Hid (RR.ok ⟨id, err, num, co, A, n, c, items, txt, bits, k⟩ = false) := by
      show RR.ok _ = _
      unfold RR.ok
      simp only [P1.out, Bool.and_true, Bool.true_and, Bool.and_false, Bool.false_and]
    go_enter Try.func82, Try.ntmps82
    go_wp2_with fail
    go_ret
    exact ⟨by rw [hr.out]; rfl, (Fr.refl _ _).alloc _⟩
  have P1 : Hid (decide (id ≤ (4294967295 : Int)) = true) := decide_eq_true h1
  have d1 : decide (id ≤ (4294967295 : Int)) = true := P1.out
  by_cases h2 : 0 ≤ err
  rotate_left
  · skip
    have P2 : Hid (decide ((0 : Int) ≤ err) = false) := decide_eq_false h2
    have d2 : decide ((0 : Int) ≤ err) = false := P2.out
    clear h2
    have hr : Hid (RR.ok ⟨id, err, num, co, A, n, c, items, txt, bits, k⟩ = false) := by
      show RR.ok _ = _
      unfold RR.ok
      simp only [P2.out, Bool.and_true, Bool.true_and, Bool.and_false, Bool.false_and]
    go_enter Try.func82, Try.ntmps82
    go_wp2_with fail
    go_ret
    exact ⟨by rw [hr.out]; rfl, (Fr.refl _ _).alloc _⟩
  have P2 : Hid (decide ((0 : Int) ≤ err) = true) := decide_eq_true h2
  have d2 : decide ((0 : Int) ≤ err) = true := P2.out
  by_cases h3 : err ≤ 999
  rotate_left
  · skip
    have P3 : Hid (decide (err ≤ (999 : Int)) = false) := decide_eq_false h3
    have d3 : decide (err ≤ (999 : Int)) = false := P3.out
    clear h3
    have hr : Hid (RR.ok ⟨id, err, num, co, A, n, c, items, txt, bits, k⟩ = false) := by
      show RR.ok _ = _
      unfold RR.ok
      simp only [P3.out, Bool.and_true, Bool.true_and, Bool.and_false, Bool.false_and]
    go_enter Try.func82, Try.ntmps82
    go_wp2_with fail
    go_ret
    exact ⟨by rw [hr.out]; rfl, (Fr.refl _ _).alloc _⟩
  have P3 : Hid (decide (err ≤ (999 : Int)) = true) := decide_eq_true h3
  have d3 : decide (err ≤ (999 : Int)) = true := P3.out
  by_cases h4 : (sl : Int) ≤ 128
  rotate_left
  · skip
    have P4 : Hid (decide (txt.length ≤ 128) = false) := decide_eq_false (by have := (Hsl.out : txt.length = sl); omega)
    have d4 : decide ((sl : Int) ≤ 128) = false := decide_eq_false (by omega)
    have e4 : decide (sl ≤ 128) = false := decide_eq_false (by omega)
    clear h4
    have hr : Hid (RR.ok ⟨id, err, num, co, A, n, c, items, txt, bits, k⟩ = false) := by
      show RR.ok _ = _
      unfold RR.ok
      simp only [P4.out, Bool.and_true, Bool.true_and, Bool.and_false, Bool.false_and]
    go_enter Try.func82, Try.ntmps82
    go_wp2_with fail
    go_ret
    exact ⟨by rw [hr.out]; rfl, (Fr.refl _ _).alloc _⟩
  have P4 : Hid (decide (txt.length ≤ 128) = true) := decide_eq_true (by have := (Hsl.out : txt.length = sl); omega)
  have d4 : decide ((sl : Int) ≤ 128) = true := decide_eq_true (by omega)
  have e4 : decide (sl ≤ 128) = true := decide_eq_true (by omega)
  clear h4
  cases h5 : okL [num] with
  | false =>
    have P5 := hide h5
    have hr : Hid (RR.ok ⟨id, err, num, co, A, n, c, items, txt, bits, k⟩ = false) := by
      show RR.ok _ = _
      unfold RR.ok
      simp only [P5.out, Bool.and_true, Bool.true_and, Bool.and_false, Bool.false_and]
    go_enter Try.func82, Try.ntmps82
    go_wp2_with fail
    refine (HN.out _ h5).mono ?_
    rintro e w' ⟨rfl, rfl⟩
    go_wp2_with fail
    go_ret
    exact ⟨by rw [hr.out]; rfl, ((Fr.refl _ _).alloc _).alloc _⟩
  | true =>
    have P5 := hide h5
    by_cases h6 : (n : Int) ≤ 512
    rotate_left
    · skip
      have P6 : Hid (decide (items.length ≤ 512) = false) := decide_eq_false (by have := (Hlen.out : n = items.length); omega)
      have d6 : decide ((n : Int) ≤ 512) = false := decide_eq_false (by omega)
      have e6 : decide (n ≤ 512) = false := decide_eq_false (by omega)
      clear h6
      have hr : Hid (RR.ok ⟨id, err, num, co, A, n, c, items, txt, bits, k⟩ = false) := by
        show RR.ok _ = _
        unfold RR.ok
        simp only [P6.out, Bool.and_true, Bool.true_and, Bool.and_false, Bool.false_and]
      go_enter Try.func82, Try.ntmps82
      go_wp2_with fail
      refine (HN.out _ h5).mono ?_
      rintro e w' ⟨rfl, rfl⟩
      go_wp2_with fail
      go_ret
      exact ⟨by rw [hr.out]; rfl, ((Fr.refl _ _).alloc _).alloc _⟩
    have P6 : Hid (decide (items.length ≤ 512) = true) := decide_eq_true (by have := (Hlen.out : n = items.length); omega)
    have d6 : decide ((n : Int) ≤ 512) = true := decide_eq_true (by omega)
    have e6 : decide (n ≤ 512) = true := decide_eq_true (by omega)
    clear h6
    cases h7 : okL items with
    | false =>
      have P7 := hide h7
      have hr : Hid (RR.ok ⟨id, err, num, co, A, n, c, items, txt, bits, k⟩ = false) := by
        show RR.ok _ = _
        unfold RR.ok
        simp only [P7.out, Bool.and_true, Bool.true_and, Bool.and_false, Bool.false_and]
      go_enter Try.func82, Try.ntmps82
      go_wp2_with fail
      refine (HN.out _ h5).mono ?_
      rintro e w' ⟨rfl, rfl⟩
      go_wp2_with fail
      refine (HI.out _ (((Fr.refl _ _).alloc _).alloc _)).mono ?_
      rw [h7]
      rintro e w' ⟨rfl, rfl⟩
      go_wp2_with fail
      go_ret
      exact ⟨by rw [hr.out]; rfl, ((Fr.refl _ _).alloc _).alloc _⟩
    | true =>
      have P7 := hide h7
      cases h8 : CR.ok k with
      | false =>
        have P8 := hide h8
        have hr : Hid (RR.ok ⟨id, err, num, co, A, n, c, items, txt, bits, k⟩ = false) := by
          show RR.ok _ = _
          unfold RR.ok
          simp only [P8.out, Bool.and_true, Bool.true_and, Bool.and_false, Bool.false_and]
        go_enter Try.func82, Try.ntmps82
        go_wp2_with fail
        refine (HN.out _ h5).mono ?_
        rintro e w' ⟨rfl, rfl⟩
        go_wp2_with fail
        refine (HI.out _ (((Fr.refl _ _).alloc _).alloc _)).mono ?_
        rw [h7]
        rintro e w' ⟨rfl, rfl⟩
        go_wp2_with fail
        refine (HK.out _ (((Fr.refl _ _).alloc _).alloc _)).mono ?_
        rw [h8]
        rintro e w' ⟨rfl, hf⟩
        have HF := hide ((((Fr.refl (fun _ => False) w).alloc _).alloc _).trans hf)
        clear hf
        go_wp2_with fail
        go_ret
        exact ⟨by rw [hr.out]; rfl, HF.out⟩
      | true =>
        have P8 := hide h8
        have hr : Hid (RR.ok ⟨id, err, num, co, A, n, c, items, txt, bits, k⟩ = true) := by
          show RR.ok _ = _
          unfold RR.ok
          simp only [P0.out, P1.out, P2.out, P3.out, P4.out, P5.out, P6.out, P7.out, P8.out, Bool.and_true, Bool.true_and, Bool.and_false, Bool.false_and]
        go_enter Try.func82, Try.ntmps82
        go_wp2_with fail
        refine (HN.out _ h5).mono ?_
        rintro e w' ⟨rfl, rfl⟩
        go_wp2_with fail
        refine (HI.out _ (((Fr.refl _ _).alloc _).alloc _)).mono ?_
        rw [h7]
        rintro e w' ⟨rfl, rfl⟩
        go_wp2_with fail
        refine (HK.out _ (((Fr.refl _ _).alloc _).alloc _)).mono ?_
        rw [h8]
        rintro e w' ⟨rfl, hf⟩
        have HF := hide ((((Fr.refl (fun _ => False) w).alloc _).alloc _).trans hf)
        clear hf
        go_wp2_with fail
        go_ret
        exact ⟨by rw [hr.out]; rfl, HF.out⟩
end Go.Proofs.Ytlcjhbemgagchaa
end

section
/-
  proto: DecodeReply of the program. (printed by pr_dec2.py)
-/
namespace Go.Proofs.Ytlcjhbemgagchaa
open Go.RowKit
set_option linter.unusedVariables false
set_option linter.unusedSimpArgs false

abbrev rep0 : Array Value := #[.int .i64 0, .int .i64 0, .int .i64 0, .int .u64 0, .slice none 0 0, .string ⟨#[]⟩, .int .u32 0, .int .i64 0, .int .i64 0, .int .i64 0, .int .i64 0, .int .i64 0, .int .i64 0, .int .u64 0, .int .u64 0, .int .u64 0, .int .i64 0, .slice none 0 0]
/-- What DecodeReply answers. -/
def RepPost (bs : List Nat) (w : World) (e : Ending) (w' : World) : Prop :=
  (65536 < bs.length ∧ e = .returned (.tuple #[.agg rep0, .int .i64 3]) ∧ Fr (fun _ => False) w w') ∨
  (bs.length ≤ 65536 ∧ (∀ c, ¬ RForm bs c) ∧ e = .returned (.tuple #[.agg rep0, .int .i64 270]) ∧ Fr (fun _ => False) w w') ∨
  (bs.length ≤ 65536 ∧ ∃ c, RForm bs c ∧ e = .returned (.tuple #[.agg #[.int .i64 c.id, .int .i64 c.err, .int .i64 c.num, .int .u64 (c.co : Int), .slice c.A c.n c.c, .string (strOf c.txt), .int .u32 (c.bits : Int), .int .i64 c.k.num, .int .i64 c.k.kind, .int .i64 c.k.by_, .int .i64 c.k.dl, .int .i64 c.k.to_, .int .i64 c.k.want, .int .u64 (c.k.pr : Int), .int .u64 (c.k.rs : Int), .int .u64 (c.k.st : Int), .int .i64 c.k.of_, .slice c.k.A c.k.n c.k.c], .int .i64 0]) ∧ ROwn w w' c ∧ Fr (fun _ => False) w w')
set_option maxHeartbeats 16000000 in
set_option maxRecDepth 8000 in
attribute [-go_sem] Go.Instr.loadAt Go.Instr.storeAt in
theorem DecodeReply_any (w : World) (bs : List Nat) (A : Option Addr) (n c : Nat) (hl : n = bs.length) (hn : n ≤ 140737488355000) (h256 : ∀ x ∈ bs, x < 256) (hS : Sl w 1 A n (bs.map bn)) :
    Calls Try.prog 50 #[.slice A n c] w (RepPost bs w) := by
  have Hl := hide hl
  have H256 := hide h256
  clear hl h256
  by_cases hlong : 65536 < n
  · have hst := run_storeAt_at (P := Try.prog) tRep w.heap.size 0 tRep #[.int .i64 0, .int .i64 0, .int .i64 0, .int .u64 0, .slice none 0 0, .string ⟨#[]⟩, .int .u32 0, .int .i64 0, .int .i64 0, .int .i64 0, .int .i64 0, .int .i64 0, .int .i64 0, .int .u64 0, .int .u64 0, .int .u64 0, .int .i64 0, .slice none 0 0] #[.int .i64 0, .int .i64 0, .int .i64 0, .int .u64 0, .slice none 0 0, .string ⟨#[]⟩, .int .u32 0, .int .i64 0, .int .i64 0, .int .i64 0, .int .i64 0, .int .i64 0, .int .i64 0, .int .u64 0, .int .u64 0, .int .u64 0, .int .i64 0, .slice none 0 0] #[.int .i64 0, .int .i64 0, .int .i64 0, .int .u64 0, .slice none 0 0, .string ⟨#[]⟩, .int .u32 0, .int .i64 0, .int .i64 0, .int .i64 0, .int .i64 0, .int .i64 0, .int .i64 0, .int .u64 0, .int .u64 0, .int .u64 0, .int .i64 0, .slice none 0 0] (by kernel_rfl) 18 18 rfl rfl (by decide) rfl rfl (Bl.new w tRep #[.int .i64 0, .int .i64 0, .int .i64 0, .int .u64 0, .slice none 0 0, .string ⟨#[]⟩, .int .u32 0, .int .i64 0, .int .i64 0, .int .i64 0, .int .i64 0, .int .i64 0, .int .i64 0, .int .u64 0, .int .u64 0, .int .u64 0, .int .i64 0, .slice none 0 0])
    go_enter Try.func50, Try.ntmps50
    go_wp2_with fail
    try simp only [Exit.inBlock, Exit.then]
    refine bodyPost_ret (results_row_tmp rfl _ _ w.heap.size tRep rep0 (0, 0) _ rfl ((Bl.new w tRep rep0).setRow rep0) Try.underlying35 rfl (by kernel_rfl)) rfl ?_
    exact .inl ⟨by rw [← Hl.out]; exact hlong, rfl, Fr.setRow ((Fr.refl _ _).alloc _) (.inr (Nat.le_refl _)) _⟩
  have HO : Hid (∀ w1, Fr (fun _ => False) w w1 → Calls Try.prog 90 #[.slice A n c] w1 fun e w' => ∃ (r : TRd) (pf pb b : Nat) (d : RD) (f : RF), e = .returned (rdv r pb) ∧ Hid (readS F0 0 bs = (d, f)) ∧ Hid (RC w' pf pb b r d f false ∧ w1.heap.size ≤ pf ∧ w1.heap.size ≤ pb ∧ (∀ y, r.foot y → w1.heap.size ≤ y) ∧ Fr (fun _ => False) w1 w')) := fun w1 hf => ropen_any w1 bs A n c hn H256.out (hS.quiet hf)
  have Hlim : Hid (n ≤ 65536) := Nat.le_of_not_lt hlong
  clear hS
  go_enter Try.func50, Try.ntmps50
  go_wp2_with fail
  refine (HO.out _ ((Fr.refl _ _).alloc _)).mono ?_
  rintro e w1 ⟨r, pf, pb, b, d, f0, rfl, HRS, HP⟩
  have hBR1 : Bl w1 w.heap.size tRep rep0 := (Bl.new w tRep rep0).fr HP.out.2.2.2.2 id
  have hst0 := run_storeAt_at (P := Try.prog) tRdr w1.heap.size 0 tRdr #[.pointer none, .pointer none] #[.pointer (some ⟨r.p, 0, none⟩), .pointer (some ⟨pb, 0, none⟩)] #[.pointer (some ⟨r.p, 0, none⟩), .pointer (some ⟨pb, 0, none⟩)] (by kernel_rfl) 2 2 rfl rfl (by decide) rfl rfl (Bl.new w1 tRdr #[.pointer none, .pointer none])
  go_wp2_with fail
  obtain ⟨B4, hB4⟩ : ∃ B4, w1.heap.size = B4 := ⟨_, rfl⟩
  rw [hB4]
  obtain ⟨w2, hw2⟩ : ∃ w2, (w1.alloc (.cells #[.pointer none, .pointer none] tRdr)).setRow B4 #[.pointer (some ⟨r.p, 0, none⟩), .pointer (some ⟨pb, 0, none⟩)] = w2 := ⟨_, rfl⟩
  rw [hw2]
  have hF12 : Fr (fun _ => False) w1 w2 := by rw [← hw2]; exact Fr.setRow ((Fr.refl _ _).alloc _) (.inr (by omega)) _
  have hbx : Bl w2 B4 tRdr #[.pointer (some ⟨r.p, 0, none⟩), .pointer (some ⟨pb, 0, none⟩)] := by rw [← hw2, ← hB4]; exact (Bl.new w1 tRdr #[.pointer none, .pointer none]).setRow _
  have M0 : Me [] w2 w2 B4 pf pb b r d [] f0 false := ⟨(fun x hx => by cases hx), HP.out.1.quiet hF12, hbx, Fr.refl _ _⟩
  have HF02 : Hid (Fr (fun _ => False) w w2) := Fr.trans (by (repeat (first | with_reducible exact Fr.refl _ _ | with_reducible assumption | with_reducible refine Fr.drew ?_ | with_reducible refine Fr.drewN ?_ _ | with_reducible refine Fr.alloc ?_ _ | with_reducible refine Fr.setIn ?_ (by first | exact Or.inl rfl | exact Or.inr (by simp; done) | exact Or.inr (by simp; omega) | exact Or.inr (by omega)) _))) (HP.out.2.2.2.2.trans hF12)
  have HBR : Hid (Bl w2 w.heap.size tRep rep0) := hBR1.fr hF12 id
  have HN0 : Hid (∀ x, rturn pf pb r x → w.heap.size < x) := by
    rintro x (rfl | rfl | hx)
    · have := HP.out.2.1; simp at this; omega
    · have := HP.out.2.2.1; simp at this; omega
    · have := HP.out.2.2.2.1 x hx; simp at this; omega
  have hs2 : B4 < w2.heap.size := hbx.lt
  have hs1 : w.heap.size < B4 := by rw [← hB4]; exact hBR1.lt
  have z0 : keepB w2 B4 r pb := hbx
  clear hBR1 hF12 hbx HO
  clear hw2 hB4 hst0
  go_upto_region 4 with fail
  go_cut [2, 3, 4, 5] (fun s2 s3 s4 s5 wx => s2 = .pointer (some ⟨w.heap.size, 0, none⟩) ∧ s3 = .int .i64 0 ∧ s4 = .pointer (some ⟨B4, 0, none⟩) ∧ ∃ (B5 n1 n5 n7 n17 n19 ln lc : Nat) (LA : Option Addr) (lg : Option Nat) (ws : List Int) (vv : List Nat) (str : ByteArray) (f1 f2 f3 f4 f5 f6 f7 : RF) (b1 : Bool), s5 = .pointer (some ⟨B5, 0, none⟩) ∧ ln ≤ 1048576 ∧
    Hid (numberS d f0 1 1125899906842624 = (n1, f1) ∧ (str = strOf vv ∧ rawS d f1 3 128 = (vv, f2)) ∧ numberS d f2 5 18446744073709551615 = (n5, f3) ∧ numberS d f3 7 1125899906842624 = (n7, f4) ∧ numberS d f4 17 1125899906842624 = (n17, f5) ∧ ((itS d f5 18 512).2.2 = f6 ∧ IntsR (itVals d (itS d f5 18 512)) false ws b1) ∧ numberS d f6 19 4294967295 = (n19, f7)) ∧ Hid (Me [(B5, tRep, #[.int .i64 (n1 : Int), .int .i64 (n17 : Int), .int .i64 (n7 : Int), .int .u64 (n5 : Int), .slice LA ln lc, .string str, .int .u32 (n19 : Int), .int .i64 0, .int .i64 0, .int .i64 0, .int .i64 0, .int .i64 0, .int .i64 0, .int .u64 0, .int .u64 0, .int .u64 0, .int .i64 0, .slice none 0 0])] w2 wx B4 pf pb b r d [(f0, 1), (f1, 3), (f2, 5), (f3, 7), (f4, 17), (f5, 18), (f6, 19)] f7 b1) ∧ Hid (Ow wx 3 1 LA ln lc (ws.map iv) lg ∧ (∀ x, lg = some x → w2.heap.size ≤ x) ∧ n19 ≤ 4294967295))
  case first =>
    have hall : ∀ w', keepB w' B4 r pb → (Instr.loadAt tRdr (.pointer (some ⟨B4, 0, none⟩))).run Try.prog w' = .ok (rdv r pb) w' := fun _ h => h.load
    have hall0 : ∀ w', keepB w' B4 r pb → (Instr.loadAt tPtrR (.pointer (some ⟨B4, 0, none⟩))).run Try.prog w' = .ok (.pointer (some ⟨r.p, 0, none⟩)) w' := fun _ h => h.ld0
    go_region_held3 (fun w' => keepB w' B4 r pb) (first | assumption | exact Bl.drew (by assumption) | exact Bl.alloc (by assumption) _ | exact Bl.farRow (by assumption) (by omega) _)
      (first
        | (have hk := M6; clear hk; go_at_call 95; refine (Me.num19 (by first | exact M6 | exact M6.push tRep rep0 (by unfold Turns2 Turns; decide)) 19).mono ?_; rintro e v7 ⟨n19, f7, rfl, hn19, H7, hF7, M7⟩; have z7 : keepB v7 B4 r pb := M7.bx; have hF67 : Fr (rturn pf pb r) v6 v7 := Fr.trans (by first | exact Fr.refl _ _ | exact (Fr.refl _ _).alloc _) hF7; have hOl7 := hOl6.fr hF67 (fun x e => M6.rc.not (hOl6.typed x e) (by unfold Turns2 Turns; decide)); have hwr : IntKind.u32.wrap (n19 : Int) = (n19 : Int) := IntWalk.u32_in _ (by omega);
            first
              | (have Y5 := M7.hd; have hOl9 := hOl7; have Y6 := M7.hdle; have M9 := M7; have hst := run_storeAt_at (P := Try.prog) tRep _ 0 tRep _ #[.int .i64 (n1 : Int), .int .i64 (n17 : Int), .int .i64 (n7 : Int), .int .u64 (n5 : Int), .slice LA ln lc, .string str, .int .u32 (n19 : Int), .int .i64 0, .int .i64 0, .int .i64 0, .int .i64 0, .int .i64 0, .int .i64 0, .int .u64 0, .int .u64 0, .int .u64 0, .int .i64 0, .slice none 0 0] #[.int .i64 (n1 : Int), .int .i64 (n17 : Int), .int .i64 (n7 : Int), .int .u64 (n5 : Int), .slice LA ln lc, .string str, .int .u32 (n19 : Int), .int .i64 0, .int .i64 0, .int .i64 0, .int .i64 0, .int .i64 0, .int .i64 0, .int .u64 0, .int .u64 0, .int .u64 0, .int .i64 0, .slice none 0 0] (by kernel_rfl) 18 18 rfl rfl (by decide) rfl rfl Y5)
              | (have Y5 := Bl.new v7 tRep rep0; have hOl9 := hOl7.fr ((Fr.refl (fun _ => False) _).alloc (.cells rep0 tRep)) (fun _ _ => id); have Y6 := M7.fr.size; have M9 := M7.push tRep rep0 (by unfold Turns2 Turns; decide); have hst := run_storeAt_at (P := Try.prog) tRep _ 0 tRep _ #[.int .i64 (n1 : Int), .int .i64 (n17 : Int), .int .i64 (n7 : Int), .int .u64 (n5 : Int), .slice LA ln lc, .string str, .int .u32 (n19 : Int), .int .i64 0, .int .i64 0, .int .i64 0, .int .i64 0, .int .i64 0, .int .i64 0, .int .u64 0, .int .u64 0, .int .u64 0, .int .i64 0, .slice none 0 0] #[.int .i64 (n1 : Int), .int .i64 (n17 : Int), .int .i64 (n7 : Int), .int .u64 (n5 : Int), .slice LA ln lc, .string str, .int .u32 (n19 : Int), .int .i64 0, .int .i64 0, .int .i64 0, .int .i64 0, .int .i64 0, .int .i64 0, .int .u64 0, .int .u64 0, .int .u64 0, .int .i64 0, .slice none 0 0] (by kernel_rfl) 18 18 rfl rfl (by decide) rfl rfl Y5))
        | (have hk := M5; clear hk; go_at_call 94; refine (Me.ints (by first | exact M5 | exact M5.push tRep rep0 (by unfold Turns2 Turns; decide)) 18 512).mono ?_; rintro e v6 ⟨ws, b1, f6, LA, ln, lc, lg, rfl, H6, hln, hOl, M6⟩; have z6 : keepB v6 B4 r pb := M6.bx; have hlg : ∀ x, lg = some x → w2.heap.size ≤ x := fun x e => Nat.le_trans M5.fr.size (Nat.le_trans (n := v5.heap.size) (by first | exact Nat.le_refl _ | simp) (hOl.out.2 x e)); have hOl6 := hOl.out.1)
        | (have hk := M4; clear hk; go_at_call 91; refine (Me.int (by first | exact M4 | exact M4.push tRep rep0 (by unfold Turns2 Turns; decide)) 17).mono ?_; rintro e v5 ⟨n17, f5, rfl, H5, M5⟩; have z5 : keepB v5 B4 r pb := M5.bx)
        | (have hk := M3; clear hk; go_at_call 91; refine (Me.int (by first | exact M3 | exact M3.push tRep rep0 (by unfold Turns2 Turns; decide)) 7).mono ?_; rintro e v4 ⟨n7, f4, rfl, H4, M4⟩; have z4 : keepB v4 B4 r pb := M4.bx)
        | (have hk := M2; clear hk; go_at_call 93; refine (Me.all (by first | exact M2 | exact M2.push tRep rep0 (by unfold Turns2 Turns; decide)) 5).mono ?_; rintro e v3 ⟨n5, f3, rfl, H3, M3⟩; have z3 : keepB v3 B4 r pb := M3.bx)
        | (have hk := M1; clear hk; go_at_call 92; refine (Me.text (by first | exact M1 | exact M1.push tRep rep0 (by unfold Turns2 Turns; decide)) 3 128).mono ?_; rintro e v2 ⟨vv, str, f2, rfl, H2, M2⟩; have z2 : keepB v2 B4 r pb := M2.bx)
        | (go_at_call 91; refine (Me.int (by first | exact M0.quiet ((Fr.refl _ _).drew) | exact (M0.quiet ((Fr.refl _ _).drew)).pushAt tRep rep0 (by unfold Turns2 Turns; decide) w2.heap.size rfl) 1).mono ?_; rintro e v1 ⟨n1, f1, rfl, H1, M1⟩; have z1 : keepB v1 B4 r pb := M1.bx))
    all_goals (go_wp2_with fail; go_meet; case rel => exact ⟨rfl, rfl, rfl, _, _, _, _, _, _, _, _, _, _, _, _, _, _, _, _, _, _, _, _, _, rfl, hln, ⟨H1.out, H2.out, H3.out, H4.out, H5.out, H6.out, H7.out⟩, M9.setX (by unfold Plain Turns2 Turns Rt; decide) (by decide) _, hOl9.fr (Fr.row _) (fun x e1 e2 => by subst e2; exact absurd ((hOl9.typed _ e1).same Y5.typed) (by decide)), hlg, hn19⟩)
  case rest =>
  obtain ⟨rfl, rfl, rfl, B5, n1, n5, n7, n17, n19, ln, lc, LA, lg, ws, vv, str, f1, f2, f3, f4, f5, f6, f7, b1, rfl, hln, HE1, HM, HOL⟩ := hcut
  obtain ⟨w3, rfl⟩ : ∃ w3, w3 = wc := ⟨_, rfl⟩
  clear z0
  have hB5 : w2.heap.size ≤ B5 := HM.out.hdle
  have hBn : B4 < B5 := by omega
  have rL := keepB.load (w := w3) (B := B4) (r := r) (pb := pb) HM.out.bx
  go_wp2_with fail
  refine (Me.in_ HM.out 12).mono ?_
  rintro e w11 ⟨r2, dk, f8, rfl, H8, HP4, M11⟩
  clear rL
  go_wp2_with fail
  refine (rcontract_r _ HP4.out.1).mono ?_
  rintro e w12 ⟨qk, f9, b2, gk, rfl, HCo, hkn, HEn, HQ5⟩
  have M12 := M11.sub HP4.out.1 HP4.out.2.1 HP4.out.2.2.1 HQ5.out.1 HQ5.out.2.1 HQ5.out.2.2
  have a2 := run_storeAt_at (P := Try.prog) tCo B5 7 tRep _ #[.int .i64 (n1 : Int), .int .i64 (n17 : Int), .int .i64 (n7 : Int), .int .u64 (n5 : Int), .slice LA ln lc, .string str, .int .u32 (n19 : Int), .int .i64 qk.num, .int .i64 qk.kind, .int .i64 qk.by_, .int .i64 qk.dl, .int .i64 qk.to_, .int .i64 qk.want, .int .u64 (qk.pr : Int), .int .u64 (qk.rs : Int), .int .u64 (qk.st : Int), .int .i64 qk.of_, .slice qk.A qk.n qk.c] #[.int .i64 qk.num, .int .i64 qk.kind, .int .i64 qk.by_, .int .i64 qk.dl, .int .i64 qk.to_, .int .i64 qk.want, .int .u64 (qk.pr : Int), .int .u64 (qk.rs : Int), .int .u64 (qk.st : Int), .int .i64 qk.of_, .slice qk.A qk.n qk.c] (by kernel_rfl) 18 11 rfl rfl (by decide) rfl rfl M12.hd
  have M13 := M12.setX (by unfold Plain Turns2 Turns Rt; decide) (by decide) #[.int .i64 (n1 : Int), .int .i64 (n17 : Int), .int .i64 (n7 : Int), .int .u64 (n5 : Int), .slice LA ln lc, .string str, .int .u32 (n19 : Int), .int .i64 qk.num, .int .i64 qk.kind, .int .i64 qk.by_, .int .i64 qk.dl, .int .i64 qk.to_, .int .i64 qk.want, .int .u64 (qk.pr : Int), .int .u64 (qk.rs : Int), .int .u64 (qk.st : Int), .int .i64 qk.of_, .slice qk.A qk.n qk.c]
  have o1 := HOL.out.1.fr HP4.out.2.2.2 (fun x e => HM.out.rc.not (HOL.out.1.typed x e) (by unfold Turns2 Turns; decide))
  have o2 := o1.fr HQ5.out.2.2 (fun x e => HP4.out.1.not (o1.typed x e) (by unfold Turns2 Turns; decide))
  have o3 := o2.fr (Fr.row (w := w12) (g := B5) #[.int .i64 (n1 : Int), .int .i64 (n17 : Int), .int .i64 (n7 : Int), .int .u64 (n5 : Int), .slice LA ln lc, .string str, .int .u32 (n19 : Int), .int .i64 qk.num, .int .i64 qk.kind, .int .i64 qk.by_, .int .i64 qk.dl, .int .i64 qk.to_, .int .i64 qk.want, .int .u64 (qk.pr : Int), .int .u64 (qk.rs : Int), .int .u64 (qk.st : Int), .int .i64 qk.of_, .slice qk.A qk.n qk.c]) (fun x e1 e2 => by subst e2; exact absurd ((o2.typed _ e1).same M12.hd.typed) (by decide))
  have E3 := (HEn.out.row M12.hd.typed (by decide) (by decide) #[.int .i64 (n1 : Int), .int .i64 (n17 : Int), .int .i64 (n7 : Int), .int .u64 (n5 : Int), .slice LA ln lc, .string str, .int .u32 (n19 : Int), .int .i64 qk.num, .int .i64 qk.kind, .int .i64 qk.by_, .int .i64 qk.dl, .int .i64 qk.to_, .int .i64 qk.want, .int .u64 (qk.pr : Int), .int .u64 (qk.rs : Int), .int .u64 (qk.st : Int), .int .i64 qk.of_, .slice qk.A qk.n qk.c]).base M11.fr.size
  obtain ⟨w4, hw4⟩ : ∃ w4, w12.setRow B5 #[.int .i64 (n1 : Int), .int .i64 (n17 : Int), .int .i64 (n7 : Int), .int .u64 (n5 : Int), .slice LA ln lc, .string str, .int .u32 (n19 : Int), .int .i64 qk.num, .int .i64 qk.kind, .int .i64 qk.by_, .int .i64 qk.dl, .int .i64 qk.to_, .int .i64 qk.want, .int .u64 (qk.pr : Int), .int .u64 (qk.rs : Int), .int .u64 (qk.st : Int), .int .i64 qk.of_, .slice qk.A qk.n qk.c] = w4 := ⟨_, rfl⟩
  rw [hw4] at a2 M13 o3 E3
  have rL := keepB.load (w := w4) (B := B4) (r := r) (pb := pb) M13.bx
  have HM2 := hide M13
  have HOW : Hid (Ow w4 3 1 LA ln lc (ws.map iv) lg ∧ (∀ x, lg = some x → w2.heap.size ≤ x) ∧ Ents w2 w4 qk.es qk.A qk.n qk.c gk) := ⟨o3, HOL.out.2.1, E3⟩
  have Hn19 := hide HOL.out.2.2
  clear hw4 M12 M13 o1 o2 o3 E3 M11 HOL
  go_wp2_with fail
  refine (Me.done HM2.out).mono ?_
  rintro e w5 ⟨f13, rfl, H13, M5, hF45⟩
  clear rL a2
  obtain ⟨h1, ⟨hstr, h2⟩, h3, h4, h5, ⟨h6, h6b⟩, h7⟩ := HE1.out
  subst hstr
  obtain ⟨q, hq⟩ : ∃ q : RR, q = ⟨n1, n17, n7, n5, LA, ln, lc, ws, vv, n19, qk⟩ := ⟨_, rfl⟩
  have HD : Hid (RepR bs q (b2 || decide (f13.e ≠ 0))) := by
    rw [hq]
    exact ⟨d, dk, f0, f1, f2, f3, f4, f5, f7, f8, f9, f13, n1, n7, n17, b1, b2, ⟨rfl, rfl, rfl⟩, HRS.out, h1, h2, h3, h4, h5, h6b, by rw [h6]; exact h7, H8.out, HCo.out, by rw [h6]; exact H13.out, rfl⟩
  obtain ⟨bad, hbad⟩ : ∃ bad, (b2 || decide (f13.e ≠ 0)) = bad := ⟨_, rfl⟩
  rw [hbad] at M5 HD
  have hO5 := HOW.out.1.fr hF45 (fun x e => HM2.out.rc.not (HOW.out.1.typed x e) (by unfold Turns2 Turns; decide))
  have HEn5 := HOW.out.2.2.rturn HM2.out.rc hF45
  have hs02 := HF02.out.size
  have HKO : Hid (ROwn w w5 q) := by rw [hq]; exact ⟨hln, ⟨lg, hO5, fun x e => Nat.le_trans hs02 (HOW.out.2.1 x e)⟩, hkn, ⟨gk, HEn5.base hs02⟩⟩
  have HB5 : Hid (Bl w5 w.heap.size tRep #[.int .i64 0, .int .i64 0, .int .i64 0, .int .u64 0, .slice none 0 0, .string ⟨#[]⟩, .int .u32 0, .int .i64 0, .int .i64 0, .int .i64 0, .int .i64 0, .int .i64 0, .int .i64 0, .int .u64 0, .int .u64 0, .int .u64 0, .int .i64 0, .slice none 0 0]) := HBR.out.fr M5.fr (M0.rc.not HBR.out.typed (by unfold Turns2 Turns; decide))
  have HF5 : Hid (Fr (fun _ => False) w w5) := HF02.out.comp M5.fr fun x hx e => by have := HN0.out x e; omega
  have HLb := hide (show bs.length ≤ 65536 by rw [← Hl.out]; exact Hlim.out)
  clear h1 h2 h3 h4 h5 h6 h6b h7 HE1 hO5 HP4 HQ5 HEn HCo H8 HM HEn5 HOW hbad H13 HRS HP M0 HM2 HBR HF02 HN0 Hlim
  have rP := keepB.ld1 (w := w5) (B := B4) (r := r) (pb := pb) M5.bx
  have rB := run_loadAt_cell (P := Try.prog) tBool _ Try.underlying4 rfl (M5.rc.bd.cell' (i := 0) rfl)
  have rC := run_loadAt_at (P := Try.prog) tRep B5 0 tRep _ #[.int .i64 (n1 : Int), .int .i64 (n17 : Int), .int .i64 (n7 : Int), .int .u64 (n5 : Int), .slice LA ln lc, .string (strOf vv), .int .u32 (n19 : Int), .int .i64 qk.num, .int .i64 qk.kind, .int .i64 qk.by_, .int .i64 qk.dl, .int .i64 qk.to_, .int .i64 qk.want, .int .u64 (qk.pr : Int), .int .u64 (qk.rs : Int), .int .u64 (qk.st : Int), .int .i64 qk.of_, .slice qk.A qk.n qk.c] _ Try.underlying35 rfl (by kernel_rfl) rfl M5.hd
  cases bad with
  | true =>
    have hst := run_storeAt_at (P := Try.prog) tRep w.heap.size 0 tRep #[.int .i64 0, .int .i64 0, .int .i64 0, .int .u64 0, .slice none 0 0, .string ⟨#[]⟩, .int .u32 0, .int .i64 0, .int .i64 0, .int .i64 0, .int .i64 0, .int .i64 0, .int .i64 0, .int .u64 0, .int .u64 0, .int .u64 0, .int .i64 0, .slice none 0 0] #[.int .i64 0, .int .i64 0, .int .i64 0, .int .u64 0, .slice none 0 0, .string ⟨#[]⟩, .int .u32 0, .int .i64 0, .int .i64 0, .int .i64 0, .int .i64 0, .int .i64 0, .int .i64 0, .int .u64 0, .int .u64 0, .int .u64 0, .int .i64 0, .slice none 0 0] #[.int .i64 0, .int .i64 0, .int .i64 0, .int .u64 0, .slice none 0 0, .string ⟨#[]⟩, .int .u32 0, .int .i64 0, .int .i64 0, .int .i64 0, .int .i64 0, .int .i64 0, .int .i64 0, .int .u64 0, .int .u64 0, .int .u64 0, .int .i64 0, .slice none 0 0] (by kernel_rfl) 18 18 rfl rfl (by decide) rfl rfl HB5.out
    go_wp2_with fail
    try simp only [Exit.inBlock, Exit.then]
    refine bodyPost_ret (results_row_tmp rfl _ _ w.heap.size tRep #[.int .i64 0, .int .i64 0, .int .i64 0, .int .u64 0, .slice none 0 0, .string ⟨#[]⟩, .int .u32 0, .int .i64 0, .int .i64 0, .int .i64 0, .int .i64 0, .int .i64 0, .int .i64 0, .int .u64 0, .int .u64 0, .int .u64 0, .int .i64 0, .slice none 0 0] (0, 0) _ rfl (HB5.out.setRow #[.int .i64 0, .int .i64 0, .int .i64 0, .int .u64 0, .slice none 0 0, .string ⟨#[]⟩, .int .u32 0, .int .i64 0, .int .i64 0, .int .i64 0, .int .i64 0, .int .i64 0, .int .i64 0, .int .u64 0, .int .u64 0, .int .u64 0, .int .i64 0, .slice none 0 0]) Try.underlying35 rfl (by kernel_rfl)) rfl ?_
    exact .inr (.inl ⟨HLb.out, (fun c hc => by cases (HD.out.of hc H256.out).2), rfl, HF5.out.setRow (.inr (Nat.le_refl _)) _⟩)
  | false =>
    have HC5 : Hid (Calls Try.prog 82 #[.agg #[.int .i64 (n1 : Int), .int .i64 (n17 : Int), .int .i64 (n7 : Int), .int .u64 (n5 : Int), .slice LA ln lc, .string (strOf vv), .int .u32 (n19 : Int), .int .i64 qk.num, .int .i64 qk.kind, .int .i64 qk.by_, .int .i64 qk.dl, .int .i64 qk.to_, .int .i64 qk.want, .int .u64 (qk.pr : Int), .int .u64 (qk.rs : Int), .int .u64 (qk.st : Int), .int .i64 qk.of_, .slice qk.A qk.n qk.c]] w5 fun e w' => e = .returned (.bool q.ok) ∧ Fr (fun _ => False) w5 w') := by
      have := reply_any w5 q HKO.out.at_
      rw [hq] at this ⊢
      exact this
    have HM5 := hide M5
    obtain ⟨ok, hok⟩ : ∃ ok, q.ok = ok := ⟨_, rfl⟩
    have Hok := hide hok
    rw [hok] at HC5
    have Hq := hide hq
    clear hok hq M5
    go_wp2_with fail
    refine HC5.out.mono ?_
    rintro e w6 ⟨rfl, hf6⟩
    have HB6 : Hid (Bl w6 w.heap.size tRep #[.int .i64 0, .int .i64 0, .int .i64 0, .int .u64 0, .slice none 0 0, .string ⟨#[]⟩, .int .u32 0, .int .i64 0, .int .i64 0, .int .i64 0, .int .i64 0, .int .i64 0, .int .i64 0, .int .u64 0, .int .u64 0, .int .u64 0, .int .i64 0, .slice none 0 0]) := HB5.out.fr hf6 id
    have HF6 : Hid (Fr (fun _ => False) w w6) := HF5.out.trans hf6
    have Hf6 := hide hf6
    clear rP rB rC hf6
    cases ok with
    | false =>
      have hst := run_storeAt_at (P := Try.prog) tRep w.heap.size 0 tRep #[.int .i64 0, .int .i64 0, .int .i64 0, .int .u64 0, .slice none 0 0, .string ⟨#[]⟩, .int .u32 0, .int .i64 0, .int .i64 0, .int .i64 0, .int .i64 0, .int .i64 0, .int .i64 0, .int .u64 0, .int .u64 0, .int .u64 0, .int .i64 0, .slice none 0 0] #[.int .i64 0, .int .i64 0, .int .i64 0, .int .u64 0, .slice none 0 0, .string ⟨#[]⟩, .int .u32 0, .int .i64 0, .int .i64 0, .int .i64 0, .int .i64 0, .int .i64 0, .int .i64 0, .int .u64 0, .int .u64 0, .int .u64 0, .int .i64 0, .slice none 0 0] #[.int .i64 0, .int .i64 0, .int .i64 0, .int .u64 0, .slice none 0 0, .string ⟨#[]⟩, .int .u32 0, .int .i64 0, .int .i64 0, .int .i64 0, .int .i64 0, .int .i64 0, .int .i64 0, .int .u64 0, .int .u64 0, .int .u64 0, .int .i64 0, .slice none 0 0] (by kernel_rfl) 18 18 rfl rfl (by decide) rfl rfl HB6.out
      go_wp2_with fail
      try simp only [Exit.inBlock, Exit.then]
      refine bodyPost_ret (results_row_tmp rfl _ _ w.heap.size tRep #[.int .i64 0, .int .i64 0, .int .i64 0, .int .u64 0, .slice none 0 0, .string ⟨#[]⟩, .int .u32 0, .int .i64 0, .int .i64 0, .int .i64 0, .int .i64 0, .int .i64 0, .int .i64 0, .int .u64 0, .int .u64 0, .int .u64 0, .int .i64 0, .slice none 0 0] (0, 0) _ rfl (HB6.out.setRow #[.int .i64 0, .int .i64 0, .int .i64 0, .int .u64 0, .slice none 0 0, .string ⟨#[]⟩, .int .u32 0, .int .i64 0, .int .i64 0, .int .i64 0, .int .i64 0, .int .i64 0, .int .i64 0, .int .u64 0, .int .u64 0, .int .u64 0, .int .i64 0, .slice none 0 0]) Try.underlying35 rfl (by kernel_rfl)) rfl ?_
      refine .inr (.inl ⟨HLb.out, fun c hc => ?_, rfl, HF6.out.setRow (.inr (Nat.le_refl _)) _⟩)
      have h1 := (HD.out.of hc H256.out).1.ok
      rw [Hok.out, hc.ok] at h1
      cases h1
    | true =>
      have hst := run_storeAt_at (P := Try.prog) tRep w.heap.size 0 tRep #[.int .i64 0, .int .i64 0, .int .i64 0, .int .u64 0, .slice none 0 0, .string ⟨#[]⟩, .int .u32 0, .int .i64 0, .int .i64 0, .int .i64 0, .int .i64 0, .int .i64 0, .int .i64 0, .int .u64 0, .int .u64 0, .int .u64 0, .int .i64 0, .slice none 0 0] #[.int .i64 (n1 : Int), .int .i64 (n17 : Int), .int .i64 (n7 : Int), .int .u64 (n5 : Int), .slice LA ln lc, .string (strOf vv), .int .u32 (n19 : Int), .int .i64 qk.num, .int .i64 qk.kind, .int .i64 qk.by_, .int .i64 qk.dl, .int .i64 qk.to_, .int .i64 qk.want, .int .u64 (qk.pr : Int), .int .u64 (qk.rs : Int), .int .u64 (qk.st : Int), .int .i64 qk.of_, .slice qk.A qk.n qk.c] #[.int .i64 (n1 : Int), .int .i64 (n17 : Int), .int .i64 (n7 : Int), .int .u64 (n5 : Int), .slice LA ln lc, .string (strOf vv), .int .u32 (n19 : Int), .int .i64 qk.num, .int .i64 qk.kind, .int .i64 qk.by_, .int .i64 qk.dl, .int .i64 qk.to_, .int .i64 qk.want, .int .u64 (qk.pr : Int), .int .u64 (qk.rs : Int), .int .u64 (qk.st : Int), .int .i64 qk.of_, .slice qk.A qk.n qk.c] (by kernel_rfl) 18 18 rfl rfl (by decide) rfl rfl HB6.out
      have rC6 := run_loadAt_at (P := Try.prog) tRep B5 0 tRep _ #[.int .i64 (n1 : Int), .int .i64 (n17 : Int), .int .i64 (n7 : Int), .int .u64 (n5 : Int), .slice LA ln lc, .string (strOf vv), .int .u32 (n19 : Int), .int .i64 qk.num, .int .i64 qk.kind, .int .i64 qk.by_, .int .i64 qk.dl, .int .i64 qk.to_, .int .i64 qk.want, .int .u64 (qk.pr : Int), .int .u64 (qk.rs : Int), .int .u64 (qk.st : Int), .int .i64 qk.of_, .slice qk.A qk.n qk.c] _ Try.underlying35 rfl (by kernel_rfl) rfl (HM5.out.hd.fr Hf6.out id)
      go_wp2_with fail
      try simp only [Exit.inBlock, Exit.then]
      refine bodyPost_ret (results_row_tmp rfl _ _ w.heap.size tRep #[.int .i64 (n1 : Int), .int .i64 (n17 : Int), .int .i64 (n7 : Int), .int .u64 (n5 : Int), .slice LA ln lc, .string (strOf vv), .int .u32 (n19 : Int), .int .i64 qk.num, .int .i64 qk.kind, .int .i64 qk.by_, .int .i64 qk.dl, .int .i64 qk.to_, .int .i64 qk.want, .int .u64 (qk.pr : Int), .int .u64 (qk.rs : Int), .int .u64 (qk.st : Int), .int .i64 qk.of_, .slice qk.A qk.n qk.c] (0, 0) _ rfl (HB6.out.setRow #[.int .i64 (n1 : Int), .int .i64 (n17 : Int), .int .i64 (n7 : Int), .int .u64 (n5 : Int), .slice LA ln lc, .string (strOf vv), .int .u32 (n19 : Int), .int .i64 qk.num, .int .i64 qk.kind, .int .i64 qk.by_, .int .i64 qk.dl, .int .i64 qk.to_, .int .i64 qk.want, .int .u64 (qk.pr : Int), .int .u64 (qk.rs : Int), .int .u64 (qk.st : Int), .int .i64 qk.of_, .slice qk.A qk.n qk.c]) Try.underlying35 rfl (by kernel_rfl)) rfl ?_
      refine .inr (.inr ⟨HLb.out, q, HD.out.sound H256.out Hok.out, by rw [Hq.out]; rfl, ?_, HF6.out.setRow (.inr (Nat.le_refl _)) _⟩)
      obtain ⟨ge, o1, o2⟩ := HKO.out.eo
      obtain ⟨gk, o3⟩ := HKO.out.ko
      have o4 := o1.fr Hf6.out (fun _ _ => id)
      exact ⟨HKO.out.en, ⟨ge, o4.fr (Fr.row _) (fun x e1 e2 => by subst e2; exact absurd ((o4.typed _ e1).same HB6.out.typed) (by decide)), o2⟩, HKO.out.kn, ⟨gk, (o3.quiet Hf6.out).row HB6.out.typed (by decide) (by decide) _⟩⟩
end Go.Proofs.Ytlcjhbemgagchaa
end
