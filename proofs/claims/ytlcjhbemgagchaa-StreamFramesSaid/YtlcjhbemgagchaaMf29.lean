/-
  Texts merged into one, to keep the claim small: Pr3, PrK2.
-/
import Derived.Test.YtlcjhbemgagchaaMf22
import Derived.Test.YtlcjhbemgagchaaMf26
import Derived.Test.YtlcjhbemgagchaaMf24
section
/-
  proto: contract (may it be?).
-/
namespace Go.Proofs.Ytlcjhbemgagchaa
open Go.RowKit
set_option linter.unusedVariables false
set_option linter.unusedSimpArgs false
theorem all_take {l : List ER} {j : Nat} (h : j < l.length) : (l.take (j + 1)).all ER.ok = ((l.take j).all ER.ok && (l[j]).ok) := by
  rw [List.take_add_one, List.getElem?_eq_getElem h, List.all_append]
  simp
theorem all_false {l : List ER} {j : Nat} (h : j < l.length) (hf : (l[j]).ok = false) : l.all ER.ok = false := by
  rw [List.all_eq_false]
  exact ⟨l[j], List.getElem_mem h, by rw [hf]; simp⟩
set_option maxHeartbeats 4000000 in
set_option maxRecDepth 8000 in
theorem contract_any (w : World) (r : CR) (h : r.at_ w) :
    Calls Try.prog 106 #[.agg #[.int .i64 r.num, .int .i64 r.kind, .int .i64 r.by_, .int .i64 r.dl, .int .i64 r.to_, .int .i64 r.want, .int .u64 (r.pr : Int), .int .u64 (r.rs : Int), .int .u64 (r.st : Int), .int .i64 r.of_, .slice r.A r.n r.c]] w fun e w' => e = .returned (.bool r.ok) ∧ Fr (fun _ => False) w w' := by
  have HAt := hide h
  have Hlen := hide h.len
  have hle := h.le
  clear h
  obtain ⟨num, kind, by_, dl, to_, want, pr, rs, st, of_, A, n, c, es⟩ := r
  simp only at HAt Hlen hle ⊢
  have HA2 := hide hle
  by_cases h1 : 16 < n
  · have hr : Hid (CR.ok ⟨num, kind, by_, dl, to_, want, pr, rs, st, of_, A, n, c, es⟩ = false) := by
      have : decide (es.length ≤ 16) = false := decide_eq_false (by have := Hlen.out; omega)
      show CR.ok _ = _; simp only [CR.ok, this, Bool.false_and]
    have i2 : (16 : Int) < (n : Int) := by omega
    clear h1
    go_enter Try.func106, Try.ntmps106
    go_wp2_with fail
    go_ret
    exact ⟨by rw [hr.out]; rfl, (Fr.refl _ _).alloc _⟩
  have i2 : decide ((16 : Int) < (n : Int)) = false := decide_eq_false (by omega)
  have hn16 : n ≤ 16 := by omega
  clear h1
  go_enter Try.func106, Try.ntmps106
  go_wp2_with fail
  go_loopw [12] (fun vi wr => ∃ j : Nat, j ≤ n ∧ vi = .int .i64 (j : Int) ∧ Hid ((es.take j).all ER.ok = true) ∧ Hid (Fr (fun _ => False) w wr) ∧ Hid (Bl wr w.heap.size 29 #[.int .i64 num, .int .i64 kind, .int .i64 by_, .int .i64 dl, .int .i64 to_, .int .i64 want, .int .u64 (pr : Int), .int .u64 (rs : Int), .int .u64 (st : Int), .int .i64 of_, .slice A n c])) (fun vi _ => n - (intOf vi).toNat)
  case atStart => exact ⟨0, Nat.zero_le _, rfl, rfl, (Fr.refl _ _).alloc _, Bl.new _ _ _⟩
  case round =>
    obtain ⟨wo, rfl⟩ : ∃ wo, wo = wr := ⟨_, rfl⟩
    obtain ⟨j, hj, rfl, hk, HF, HB⟩ := hrel
    by_cases hlt : j < n
    · have hjl : j < es.length := by rw [← (Hlen.out : n = es.length)]; exact hlt
      obtain ⟨b, o, hA, hc⟩ := (HAt.out.quiet HF.out).row hjl
      simp only at hA
      have HE : Hid ((es[j]).at_ wo) := (HAt.out.quiet HF.out).es _ (List.getElem_mem hjl)
      have Htk := hide (all_take hjl)
      have Hall := hide (fun hf => all_false hjl hf)
      obtain ⟨e, he⟩ : ∃ e, es[j] = e := ⟨_, rfl⟩
      simp only at hc
      rw [he] at hc HE Htk Hall
      obtain ⟨acc, item, co, pr2, A2, n2, c2, ws⟩ := e
      have d0 := hc 0 _ rfl
      rw [Nat.add_zero] at d0
      have d1 := hc 1 _ rfl
      have d2 := hc 2 _ rfl
      have d3 := hc 3 _ rfl
      have d4 := hc 4 _ rfl
      subst hA
      have i0 : (0 : Int) ≤ (j : Int) := by omega
      have i1 : (j : Int) < (n : Int) := by omega
      have q1 : IntKind.i64.wrap ((j : Int) + 1) = ((j + 1 : Nat) : Int) := by rw [IntWalk.i64_in _ (by omega)]; omega
      have Hlt := hide hlt
      have HC : Hid (∀ w1, Fr (fun _ => False) wo w1 → Calls Try.prog 105 #[.agg #[.int .i64 acc, .int .i64 item, .int .u64 (co : Int), .int .u64 (pr2 : Int), .slice A2 n2 c2]] w1 fun e w' => e = .returned (.bool (ER.ok ⟨acc, item, co, pr2, A2, n2, c2, ws⟩)) ∧ Fr (fun _ => False) w1 w') := fun w1 hf => entry_any w1 ⟨acc, item, co, pr2, A2, n2, c2, ws⟩ (HE.out.quiet hf)
      clear hc he hjl hlt hj HE
      go_wp2_with fail
      cases hok : ER.ok ⟨acc, item, co, pr2, A2, n2, c2, ws⟩ with
      | false =>
        have hr : Hid (CR.ok ⟨num, kind, by_, dl, to_, want, pr, rs, st, of_, some ⟨b, o, none⟩, n, c, es⟩ = false) := by
          have := Hall.out hok
          show CR.ok _ = _; simp only [CR.ok, this, Bool.and_false, Bool.false_and]
        refine (HC.out _ (by (repeat (first | with_reducible exact Fr.refl _ _ | with_reducible assumption | with_reducible refine Fr.drew ?_ | with_reducible refine Fr.drewN ?_ _ | with_reducible refine Fr.alloc ?_ _ | with_reducible refine Fr.setIn ?_ (by first | exact Or.inl rfl | exact Or.inr (by simp; done) | exact Or.inr (by simp; omega) | exact Or.inr (by omega)) _)))).mono ?_
        rintro e w1 ⟨rfl, hf1⟩
        have HF1 : Hid (Fr (fun _ => False) w w1) := HF.out.trans (Fr.trans (by (repeat (first | with_reducible exact Fr.refl _ _ | with_reducible assumption | with_reducible refine Fr.drew ?_ | with_reducible refine Fr.drewN ?_ _ | with_reducible refine Fr.alloc ?_ _ | with_reducible refine Fr.setIn ?_ (by first | exact Or.inl rfl | exact Or.inr (by simp; done) | exact Or.inr (by simp; omega) | exact Or.inr (by omega)) _))) hf1)
        rw [hok]
        clear hf1 hok
        go_wp2_with fail
        go_ret
        exact ⟨by rw [hr.out]; rfl, HF1.out⟩
      | true =>
        refine (HC.out _ (by (repeat (first | with_reducible exact Fr.refl _ _ | with_reducible assumption | with_reducible refine Fr.drew ?_ | with_reducible refine Fr.drewN ?_ _ | with_reducible refine Fr.alloc ?_ _ | with_reducible refine Fr.setIn ?_ (by first | exact Or.inl rfl | exact Or.inr (by simp; done) | exact Or.inr (by simp; omega) | exact Or.inr (by omega)) _)))).mono ?_
        rintro e w1 ⟨rfl, hf1⟩
        have hf01 : Fr (fun _ => False) wo w1 := Fr.trans (by (repeat (first | with_reducible exact Fr.refl _ _ | with_reducible assumption | with_reducible refine Fr.drew ?_ | with_reducible refine Fr.drewN ?_ _ | with_reducible refine Fr.alloc ?_ _ | with_reducible refine Fr.setIn ?_ (by first | exact Or.inl rfl | exact Or.inr (by simp; done) | exact Or.inr (by simp; omega) | exact Or.inr (by omega)) _))) hf1
        have HF1 := hide (HF.out.trans hf01)
        have HB1 := hide (HB.out.fr hf01 id)
        have hk2 : Hid ((es.take (j + 1)).all ER.ok = true) := by show _ = _; rw [Htk.out, hk.out, hok]; rfl
        rw [hok]
        clear hf1 hok hf01
        go_wp2_with fail
        have := Hlt.out
        exact ⟨⟨j + 1, by omega, by first | rfl | go_num, hk2, HF1, HB1⟩, by simp [intOf]; try omega⟩
    · have hall : es.all ER.ok = true := by have := hk.out; rwa [List.take_of_length_le (by rw [← (Hlen.out : n = es.length)]; omega)] at this
      have hr : Hid (CR.ok ⟨num, kind, by_, dl, to_, want, pr, rs, st, of_, A, n, c, es⟩ = okL [num, kind, by_, dl, to_, want, of_]) := by
        have : decide (es.length ≤ 16) = true := decide_eq_true (by have := (Hlen.out : n = es.length); omega)
        show CR.ok _ = _; simp only [CR.ok, this, hall, Bool.true_and]; rfl
      have HN := hide (numbers_lit wo [num, kind, by_, dl, to_, want, of_] wo.heap.size 7 rfl rfl (by omega) #[.int .i64 num, .int .i64 kind, .int .i64 by_, .int .i64 dl, .int .i64 to_, .int .i64 want, .int .i64 of_] rfl rfl)
      obtain rfl : j = n := by omega
      have c0 := HB.out.cell' (i := 0) rfl
      have c1 := HB.out.cell' (i := 1) rfl
      have c2 := HB.out.cell' (i := 2) rfl
      have c3 := HB.out.cell' (i := 3) rfl
      have c4 := HB.out.cell' (i := 4) rfl
      have c5 := HB.out.cell' (i := 5) rfl
      have c9 := HB.out.cell' (i := 9) rfl
      clear hlt hj hall hk
      go_wp2_with fail
      refine HN.out.mono ?_
      rintro e w' ⟨rfl, rfl⟩
      clear c0 c1 c2 c3 c4 c5 c9
      go_wp2_with fail
      go_ret
      exact ⟨by rw [hr.out]; rfl, HF.out.alloc _⟩
end Go.Proofs.Ytlcjhbemgagchaa
end

section
/-
  proto: of, lacks (a closure of command), blank, Cost, Query; the reference's Cost and Query. (printed by pr_kinds.py)
-/
namespace Go.Proofs.Ytlcjhbemgagchaa
open Go.RowKit
set_option linter.unusedVariables false
set_option linter.unusedSimpArgs false
abbrev tCmd : TypeId := 31
theorem kind15 {k : Int} (h : 0 ≤ k ∧ k < 15) : ∃ j : Nat, j < 15 ∧ k = (j : Int) := ⟨k.toNat, by omega, by omega⟩
theorem hasI_none {k : Int} (h : k < 0 ∨ 15 ≤ k) : hasI k = 0 ∧ costI k = 0 := by
  unfold hasI costI
  rcases h with h | h
  · rw [if_neg (by omega), if_neg (by omega)]; exact ⟨rfl, rfl⟩
  · rw [if_pos (by omega), if_pos (by omega), List.getD_eq_getElem?_getD, List.getElem?_eq_none (by show 15 ≤ _; omega)]; exact ⟨rfl, rfl⟩
theorem kinds_at (w : World) (j : Nat) (hj : j < 15) (g : Nat) (t : TypeId) (hb : Bl w g t #[.int .i64 0, .int .i64 0, .int .i64 4, .int .i64 1, .int .i64 2, .int .i64 6, .int .i64 2, .int .i64 34, .int .i64 2, .int .i64 6, .int .i64 2, .int .i64 10, .int .i64 8, .int .i64 192, .int .i64 5, .int .i64 80, .int .i64 3, .int .i64 16, .int .i64 3, .int .i64 2, .int .i64 1, .int .i64 2, .int .i64 1, .int .i64 8, .int .i64 2, .int .i64 16, .int .i64 2, .int .i64 32, .int .i64 1, .int .i64 1]) : w.cell? ⟨g, j * 2, none⟩ = some (.int .i64 (costI (j : Int))) ∧ w.cell? ⟨g, j * 2 + 1, none⟩ = some (.int .i64 (hasI (j : Int))) := by
  match j, hj with
  | 0, _ => exact ⟨hb.cell' rfl, hb.cell' rfl⟩
  | 1, _ => exact ⟨hb.cell' rfl, hb.cell' rfl⟩
  | 2, _ => exact ⟨hb.cell' rfl, hb.cell' rfl⟩
  | 3, _ => exact ⟨hb.cell' rfl, hb.cell' rfl⟩
  | 4, _ => exact ⟨hb.cell' rfl, hb.cell' rfl⟩
  | 5, _ => exact ⟨hb.cell' rfl, hb.cell' rfl⟩
  | 6, _ => exact ⟨hb.cell' rfl, hb.cell' rfl⟩
  | 7, _ => exact ⟨hb.cell' rfl, hb.cell' rfl⟩
  | 8, _ => exact ⟨hb.cell' rfl, hb.cell' rfl⟩
  | 9, _ => exact ⟨hb.cell' rfl, hb.cell' rfl⟩
  | 10, _ => exact ⟨hb.cell' rfl, hb.cell' rfl⟩
  | 11, _ => exact ⟨hb.cell' rfl, hb.cell' rfl⟩
  | 12, _ => exact ⟨hb.cell' rfl, hb.cell' rfl⟩
  | 13, _ => exact ⟨hb.cell' rfl, hb.cell' rfl⟩
  | 14, _ => exact ⟨hb.cell' rfl, hb.cell' rfl⟩
  | j + 15, h => omega
set_option maxHeartbeats 1000000 in
set_option maxRecDepth 4000 in
theorem of_any (w : World) (k : Int) :
    Calls Try.prog 102 #[.int .i64 k] w fun e w' => e = .returned (.agg #[.int .i64 (costI k), .int .i64 (hasI k)]) ∧ Fr (fun _ => False) w w' := by
  have hb1 : Bl ((w.alloc (.cells #[.int .i64 0, .int .i64 0] 163)).alloc (.cells #[.int .i64 0, .int .i64 0, .int .i64 0, .int .i64 0, .int .i64 0, .int .i64 0, .int .i64 0, .int .i64 0, .int .i64 0, .int .i64 0, .int .i64 0, .int .i64 0, .int .i64 0, .int .i64 0, .int .i64 0, .int .i64 0, .int .i64 0, .int .i64 0, .int .i64 0, .int .i64 0, .int .i64 0, .int .i64 0, .int .i64 0, .int .i64 0, .int .i64 0, .int .i64 0, .int .i64 0, .int .i64 0, .int .i64 0, .int .i64 0] 206)) (w.heap.size + 1) 206 #[.int .i64 0, .int .i64 0, .int .i64 0, .int .i64 0, .int .i64 0, .int .i64 0, .int .i64 0, .int .i64 0, .int .i64 0, .int .i64 0, .int .i64 0, .int .i64 0, .int .i64 0, .int .i64 0, .int .i64 0, .int .i64 0, .int .i64 0, .int .i64 0, .int .i64 0, .int .i64 0, .int .i64 0, .int .i64 0, .int .i64 0, .int .i64 0, .int .i64 0, .int .i64 0, .int .i64 0, .int .i64 0, .int .i64 0, .int .i64 0] := Bl.newAt (by simp)
  have hset := setRow_alloc2 w (.cells #[.int .i64 0, .int .i64 0] 163) #[.int .i64 0, .int .i64 0, .int .i64 0, .int .i64 0, .int .i64 0, .int .i64 0, .int .i64 0, .int .i64 0, .int .i64 0, .int .i64 0, .int .i64 0, .int .i64 0, .int .i64 0, .int .i64 0, .int .i64 0, .int .i64 0, .int .i64 0, .int .i64 0, .int .i64 0, .int .i64 0, .int .i64 0, .int .i64 0, .int .i64 0, .int .i64 0, .int .i64 0, .int .i64 0, .int .i64 0, .int .i64 0, .int .i64 0, .int .i64 0] #[.int .i64 0, .int .i64 0, .int .i64 4, .int .i64 1, .int .i64 2, .int .i64 6, .int .i64 2, .int .i64 34, .int .i64 2, .int .i64 6, .int .i64 2, .int .i64 10, .int .i64 8, .int .i64 192, .int .i64 5, .int .i64 80, .int .i64 3, .int .i64 16, .int .i64 3, .int .i64 2, .int .i64 1, .int .i64 2, .int .i64 1, .int .i64 8, .int .i64 2, .int .i64 16, .int .i64 2, .int .i64 32, .int .i64 1, .int .i64 1] 206
  have HB0 : Hid (Bl ((w.alloc (.cells #[.int .i64 0, .int .i64 0] 163)).alloc (.cells #[.int .i64 0, .int .i64 0, .int .i64 4, .int .i64 1, .int .i64 2, .int .i64 6, .int .i64 2, .int .i64 34, .int .i64 2, .int .i64 6, .int .i64 2, .int .i64 10, .int .i64 8, .int .i64 192, .int .i64 5, .int .i64 80, .int .i64 3, .int .i64 16, .int .i64 3, .int .i64 2, .int .i64 1, .int .i64 2, .int .i64 1, .int .i64 8, .int .i64 2, .int .i64 16, .int .i64 2, .int .i64 32, .int .i64 1, .int .i64 1] 206)) w.heap.size 163 #[.int .i64 0, .int .i64 0]) := (Bl.new _ _ _).alloc _
  have HB1 : Hid (Bl ((w.alloc (.cells #[.int .i64 0, .int .i64 0] 163)).alloc (.cells #[.int .i64 0, .int .i64 0, .int .i64 4, .int .i64 1, .int .i64 2, .int .i64 6, .int .i64 2, .int .i64 34, .int .i64 2, .int .i64 6, .int .i64 2, .int .i64 10, .int .i64 8, .int .i64 192, .int .i64 5, .int .i64 80, .int .i64 3, .int .i64 16, .int .i64 3, .int .i64 2, .int .i64 1, .int .i64 2, .int .i64 1, .int .i64 8, .int .i64 2, .int .i64 16, .int .i64 2, .int .i64 32, .int .i64 1, .int .i64 1] 206)) (w.heap.size + 1) 206 #[.int .i64 0, .int .i64 0, .int .i64 4, .int .i64 1, .int .i64 2, .int .i64 6, .int .i64 2, .int .i64 34, .int .i64 2, .int .i64 6, .int .i64 2, .int .i64 10, .int .i64 8, .int .i64 192, .int .i64 5, .int .i64 80, .int .i64 3, .int .i64 16, .int .i64 3, .int .i64 2, .int .i64 1, .int .i64 2, .int .i64 1, .int .i64 8, .int .i64 2, .int .i64 16, .int .i64 2, .int .i64 32, .int .i64 1, .int .i64 1]) := Bl.newAt (by simp)
  unfold Bl at hb1
  by_cases h0 : k < 0
  · have hz := hasI_none (k := k) (.inl h0)
    have HZ := hide hz
    have i1 : decide (k < 0) = true := decide_eq_true h0
    clear hz
    go_enter Try.func102, Try.ntmps102
    go_wp2_with (refine wpList_store_at rfl 206 _ _ rfl (w.heap.size + 1) 0 #[.int .i64 0, .int .i64 0, .int .i64 4, .int .i64 1, .int .i64 2, .int .i64 6, .int .i64 2, .int .i64 34, .int .i64 2, .int .i64 6, .int .i64 2, .int .i64 10, .int .i64 8, .int .i64 192, .int .i64 5, .int .i64 80, .int .i64 3, .int .i64 16, .int .i64 3, .int .i64 2, .int .i64 1, .int .i64 2, .int .i64 1, .int .i64 8, .int .i64 2, .int .i64 16, .int .i64 2, .int .i64 32, .int .i64 1, .int .i64 1] rfl rfl 206 _ #[.int .i64 0, .int .i64 0, .int .i64 4, .int .i64 1, .int .i64 2, .int .i64 6, .int .i64 2, .int .i64 34, .int .i64 2, .int .i64 6, .int .i64 2, .int .i64 10, .int .i64 8, .int .i64 192, .int .i64 5, .int .i64 80, .int .i64 3, .int .i64 16, .int .i64 3, .int .i64 2, .int .i64 1, .int .i64 2, .int .i64 1, .int .i64 8, .int .i64 2, .int .i64 16, .int .i64 2, .int .i64 32, .int .i64 1, .int .i64 1] hb1 (by kernel_rfl) 30 30 rfl rfl (by decide) rfl rfl ?_; rw [hset])
    have hB3 : Bl ((w.alloc (.cells #[.int .i64 0, .int .i64 0] 163)).alloc (.cells #[.int .i64 0, .int .i64 0, .int .i64 4, .int .i64 1, .int .i64 2, .int .i64 6, .int .i64 2, .int .i64 34, .int .i64 2, .int .i64 6, .int .i64 2, .int .i64 10, .int .i64 8, .int .i64 192, .int .i64 5, .int .i64 80, .int .i64 3, .int .i64 16, .int .i64 3, .int .i64 2, .int .i64 1, .int .i64 2, .int .i64 1, .int .i64 8, .int .i64 2, .int .i64 16, .int .i64 2, .int .i64 32, .int .i64 1, .int .i64 1] 206)) w.heap.size 163 #[.int .i64 (costI k), .int .i64 (hasI k)] := by rw [HZ.out.1, HZ.out.2]; exact HB0.out
    try simp only [Exit.inBlock, Exit.then]
    refine bodyPost_ret (results_cell_row rfl _ _ w.heap.size 163 #[.int .i64 (costI k), .int .i64 (hasI k)] (0, 0) _ rfl hB3 Try.underlying163 rfl (by kernel_rfl)) rfl ?_
    exact ⟨rfl, ((Fr.refl _ _).alloc _).alloc _⟩
  have i1 : decide (k < 0) = false := decide_eq_false h0
  by_cases h1 : 15 ≤ k
  · have hz := hasI_none (k := k) (.inr h1)
    have HZ := hide hz
    have i2 : decide ((15 : Int) ≤ k) = true := decide_eq_true h1
    clear hz
    go_enter Try.func102, Try.ntmps102
    go_wp2_with (refine wpList_store_at rfl 206 _ _ rfl (w.heap.size + 1) 0 #[.int .i64 0, .int .i64 0, .int .i64 4, .int .i64 1, .int .i64 2, .int .i64 6, .int .i64 2, .int .i64 34, .int .i64 2, .int .i64 6, .int .i64 2, .int .i64 10, .int .i64 8, .int .i64 192, .int .i64 5, .int .i64 80, .int .i64 3, .int .i64 16, .int .i64 3, .int .i64 2, .int .i64 1, .int .i64 2, .int .i64 1, .int .i64 8, .int .i64 2, .int .i64 16, .int .i64 2, .int .i64 32, .int .i64 1, .int .i64 1] rfl rfl 206 _ #[.int .i64 0, .int .i64 0, .int .i64 4, .int .i64 1, .int .i64 2, .int .i64 6, .int .i64 2, .int .i64 34, .int .i64 2, .int .i64 6, .int .i64 2, .int .i64 10, .int .i64 8, .int .i64 192, .int .i64 5, .int .i64 80, .int .i64 3, .int .i64 16, .int .i64 3, .int .i64 2, .int .i64 1, .int .i64 2, .int .i64 1, .int .i64 8, .int .i64 2, .int .i64 16, .int .i64 2, .int .i64 32, .int .i64 1, .int .i64 1] hb1 (by kernel_rfl) 30 30 rfl rfl (by decide) rfl rfl ?_; rw [hset])
    have hB3 : Bl ((w.alloc (.cells #[.int .i64 0, .int .i64 0] 163)).alloc (.cells #[.int .i64 0, .int .i64 0, .int .i64 4, .int .i64 1, .int .i64 2, .int .i64 6, .int .i64 2, .int .i64 34, .int .i64 2, .int .i64 6, .int .i64 2, .int .i64 10, .int .i64 8, .int .i64 192, .int .i64 5, .int .i64 80, .int .i64 3, .int .i64 16, .int .i64 3, .int .i64 2, .int .i64 1, .int .i64 2, .int .i64 1, .int .i64 8, .int .i64 2, .int .i64 16, .int .i64 2, .int .i64 32, .int .i64 1, .int .i64 1] 206)) w.heap.size 163 #[.int .i64 (costI k), .int .i64 (hasI k)] := by rw [HZ.out.1, HZ.out.2]; exact HB0.out
    try simp only [Exit.inBlock, Exit.then]
    refine bodyPost_ret (results_cell_row rfl _ _ w.heap.size 163 #[.int .i64 (costI k), .int .i64 (hasI k)] (0, 0) _ rfl hB3 Try.underlying163 rfl (by kernel_rfl)) rfl ?_
    exact ⟨rfl, ((Fr.refl _ _).alloc _).alloc _⟩
  have i2 : decide ((15 : Int) ≤ k) = false := decide_eq_false h1
  obtain ⟨j, hj, rfl⟩ := kind15 (k := k) (by omega)
  obtain ⟨c0, c1⟩ := kinds_at _ j hj _ _ HB1.out
  have i3 : (0 : Int) ≤ (j : Int) := by omega
  have i4 : (j : Int) < 15 := by omega
  have d0 := HB0.out.cell' (i := 0) rfl
  have d1 := HB0.out.cell' (i := 1) rfl
  have y0 := HB0.out.free 0
  have y1 := HB0.out.free 1
  obtain ⟨cv, hcv⟩ : ∃ cv, costI (j : Int) = cv := ⟨_, rfl⟩
  obtain ⟨hv, hhv⟩ : ∃ hv, hasI (j : Int) = hv := ⟨_, rfl⟩
  rw [hcv] at c0 ⊢
  rw [hhv] at c1 ⊢
  clear h0 h1 hcv hhv
  go_enter Try.func102, Try.ntmps102
  go_wp2_with (refine wpList_store_at rfl 206 _ _ rfl (w.heap.size + 1) 0 #[.int .i64 0, .int .i64 0, .int .i64 4, .int .i64 1, .int .i64 2, .int .i64 6, .int .i64 2, .int .i64 34, .int .i64 2, .int .i64 6, .int .i64 2, .int .i64 10, .int .i64 8, .int .i64 192, .int .i64 5, .int .i64 80, .int .i64 3, .int .i64 16, .int .i64 3, .int .i64 2, .int .i64 1, .int .i64 2, .int .i64 1, .int .i64 8, .int .i64 2, .int .i64 16, .int .i64 2, .int .i64 32, .int .i64 1, .int .i64 1] rfl rfl 206 _ #[.int .i64 0, .int .i64 0, .int .i64 4, .int .i64 1, .int .i64 2, .int .i64 6, .int .i64 2, .int .i64 34, .int .i64 2, .int .i64 6, .int .i64 2, .int .i64 10, .int .i64 8, .int .i64 192, .int .i64 5, .int .i64 80, .int .i64 3, .int .i64 16, .int .i64 3, .int .i64 2, .int .i64 1, .int .i64 2, .int .i64 1, .int .i64 8, .int .i64 2, .int .i64 16, .int .i64 2, .int .i64 32, .int .i64 1, .int .i64 1] hb1 (by kernel_rfl) 30 30 rfl rfl (by decide) rfl rfl ?_; rw [hset])
  have hB3 : Bl ((w.alloc (.cells #[.int .i64 cv, .int .i64 hv] 163)).alloc (.cells #[.int .i64 0, .int .i64 0, .int .i64 4, .int .i64 1, .int .i64 2, .int .i64 6, .int .i64 2, .int .i64 34, .int .i64 2, .int .i64 6, .int .i64 2, .int .i64 10, .int .i64 8, .int .i64 192, .int .i64 5, .int .i64 80, .int .i64 3, .int .i64 16, .int .i64 3, .int .i64 2, .int .i64 1, .int .i64 2, .int .i64 1, .int .i64 8, .int .i64 2, .int .i64 16, .int .i64 2, .int .i64 32, .int .i64 1, .int .i64 1] 206)) w.heap.size 163 #[.int .i64 cv, .int .i64 hv] := (Bl.new _ _ _).alloc _
  try simp only [Exit.inBlock, Exit.then]
  refine bodyPost_ret (results_cell_row rfl _ _ w.heap.size 163 #[.int .i64 cv, .int .i64 hv] (0, 0) _ rfl hB3 Try.underlying163 rfl (by kernel_rfl)) rfl ?_
  exact ⟨rfl, ((Fr.refl _ _).alloc _).alloc _⟩

end Go.Proofs.Ytlcjhbemgagchaa
end
