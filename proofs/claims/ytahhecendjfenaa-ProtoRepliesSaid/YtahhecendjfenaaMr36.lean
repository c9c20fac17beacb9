/-
  Texts merged into one, to keep the claim small: PrI, Pr3.
-/
import Derived.Test.YtahhecendjfenaaMr35
import Derived.Test.YtahhecendjfenaaMr31
section
/-
  proto's law: markedContract. (printed by pr_like.py)
-/
namespace Go.Proofs.Ytahhecendjfenaa
open Go.RowKit
set_option linter.unusedVariables false
set_option linter.unusedSimpArgs false
set_option maxHeartbeats 4000000 in
set_option maxRecDepth 8000 in
theorem markedContract_any {W : World} (w : World) (r : CR) (L : Option Addr) (cl : Nat) (rs : List ER) (g : Option Nat) (hle : r.n ≤ 2513169434843) (hrl : rs.length = r.n) (h : LEr W w r.es L (r.n + 2) cl rs g mk2) :
    Calls Try.prog 17 #[.agg #[.int .i64 r.num, .int .i64 r.kind, .int .i64 r.by_, .int .i64 r.dl, .int .i64 r.to_, .int .i64 r.want, .int .u64 (r.pr : Int), .int .u64 (r.rs : Int), .int .u64 (r.st : Int), .int .i64 r.of_, .slice L r.n cl]] w fun e w' => e = .returned (.bool true) ∧ Fr (fun _ => False) w w' := by
  have hcap := h.ow.cap
  obtain ⟨num, kind, by_, dl, to_, want, pr, rs', st, of_, A, n, c, es⟩ := r
  simp only at h hcap hle hrl ⊢
  obtain ⟨wz, hwz⟩ : ∃ wz, wz = w.alloc (.cells #[.int .i64 num, .int .i64 kind, .int .i64 by_, .int .i64 dl, .int .i64 to_, .int .i64 want, .int .u64 (pr : Int), .int .u64 (rs' : Int), .int .u64 (st : Int), .int .i64 of_, .slice L n cl] tCon) := ⟨_, rfl⟩
  have hz := h.quiet (w' := wz) (by rw [hwz]; exact (Fr.refl _ _).alloc _)
  have k1 : n + 2 ≤ cl := hcap.1
  have k2 : cl ≤ 9223372036854775807 := by have := hcap.2; unfold maxLen at this; exact this
  have hfl : (rs.flatMap ER.cells).length = n * 5 := by rw [rows_len ER.cells 5 ER.cells_len, hrl]
  obtain ⟨b, o, hL, -, m0, -⟩ := hz.ow.look (j := n * 5) (u := .int .i64 (-77)) (by rw [List.getElem?_append_right (by omega), hfl, Nat.sub_self]; rfl)
  obtain ⟨b', o', e, -, m1, -⟩ := hz.ow.look (j := (n + 1) * 5) (u := .int .i64 (-78)) (by rw [List.getElem?_append_right (by omega), hfl, show (n + 1) * 5 - n * 5 = 5 by omega]; rfl)
  rw [hL] at e
  cases e
  subst hL
  have i1 : ((n : Int) + 2) ≤ (cl : Int) := by omega
  have q1 : IntKind.i64.wrap ((n : Int) + 2) = (n : Int) + 2 := IntWalk.i64_in _ (by omega)
  have q2 : IntKind.i64.wrap ((n : Int) + 1) = (n : Int) + 1 := IntWalk.i64_in _ (by omega)
  rw [hwz] at m0 m1
  clear hz hwz wz
  have HL := hide h
  have Hrl := hide hrl
  have HB0 : Hid (Bl (w.alloc (.cells #[.int .i64 num, .int .i64 kind, .int .i64 by_, .int .i64 dl, .int .i64 to_, .int .i64 want, .int .u64 (pr : Int), .int .u64 (rs' : Int), .int .u64 (st : Int), .int .i64 of_, .slice (some ⟨b, o, none⟩) n cl] tCon)) w.heap.size tCon #[.int .i64 num, .int .i64 kind, .int .i64 by_, .int .i64 dl, .int .i64 to_, .int .i64 want, .int .u64 (pr : Int), .int .u64 (rs' : Int), .int .u64 (st : Int), .int .i64 of_, .slice (some ⟨b, o, none⟩) n cl]) := Bl.new _ _ _
  clear h hcap hfl hrl
  go_enter Try.func17, Try.ntmps17
  go_wp2_with fail
  go_loopw [4] (fun vi wr => ∃ j : Nat, j ≤ n ∧ vi = .int .i64 (j : Int) ∧ Hid (Fr (fun _ => False) (w.alloc (.cells #[.int .i64 num, .int .i64 kind, .int .i64 by_, .int .i64 dl, .int .i64 to_, .int .i64 want, .int .u64 (pr : Int), .int .u64 (rs' : Int), .int .u64 (st : Int), .int .i64 of_, .slice (some ⟨b, o, none⟩) n cl] tCon)) wr)) (fun vi _ => n - (intOf vi).toNat)
  case atStart => exact ⟨0, Nat.zero_le _, rfl, Fr.refl _ _⟩
  case round =>
    obtain ⟨wo, rfl⟩ : ∃ wo, wo = wr := ⟨_, rfl⟩
    obtain ⟨j, hj, rfl, HF⟩ := hrel
    have bx := (HB0.out.fr HF.out id).cell' (i := 10) rfl
    have HFo : Hid (Fr (fun _ => False) w wo) := ((Fr.refl _ _).alloc _).trans HF.out
    by_cases hlt : j < n
    · have hjl : j < rs.length := by rw [Hrl.out]; exact hlt
      obtain ⟨b2, o2, e, hc⟩ := (HL.out.quiet HFo.out).row hjl
      cases e
      have d4 := hc 4 _ rfl
      obtain ⟨gi, hi⟩ := (HL.out.quiet HFo.out).li _ (List.getElem_mem hjl)
      have HM := hide (marked_any wo _ _ _ _ gi (HL.out.small _ (List.getElem_mem hjl)) hi)
      obtain ⟨q, hq⟩ : ∃ q, rs[j] = q := ⟨_, rfl⟩
      rw [hq] at d4 HM
      obtain ⟨acc, item, co, pq, X, xn, xc, ws⟩ := q
      simp only at d4 HM
      have i0 : (0 : Int) ≤ (j : Int) := by omega
      have i2 : (j : Int) < (n : Int) := by omega
      have q3 : IntKind.i64.wrap ((j : Int) + 1) = ((j + 1 : Nat) : Int) := by rw [IntWalk.i64_in _ (by omega)]; omega
      have Hlt := hide hlt
      clear hc hi hjl hlt hj hq m0 m1
      go_wp2_with fail
      refine HM.out.mono ?_
      rintro e w' ⟨rfl, rfl⟩
      go_wp2_with fail
      have := Hlt.out
      exact ⟨⟨j + 1, by omega, by first | rfl | go_num, HF⟩, by simp [intOf]; try omega⟩
    · clear m0 m1 HL
      go_wp2_with fail
      go_ret
      exact ⟨rfl, HFo.out⟩
end Go.Proofs.Ytahhecendjfenaa
end

section
/-
  proto: contract (may it be?).
-/
namespace Go.Proofs.Ytahhecendjfenaa
open Go.RowKit
set_option linter.unusedVariables false
set_option linter.unusedSimpArgs false
theorem all_take {l : List ER} {j : Nat} (h : j < l.length) : (l.take (j + 1)).all ER.ok = ((l.take j).all ER.ok && (l[j]).ok) := by
  rw [List.take_add_one, List.getElem?_eq_getElem h, List.all_append]
  simp
theorem all_false {l : List ER} {j : Nat} (h : j < l.length) (hf : (l[j]).ok = false) : l.all ER.ok = false := by
  rw [List.all_eq_false]
  exact ⟨l[j], List.getElem_mem h, by rw [hf]; simp⟩
set_option maxHeartbeats 4000000 in
set_option maxRecDepth 8000 in
theorem contract_any (w : World) (r : CR) (h : r.at_ w) :
    Calls Try.prog 72 #[.agg #[.int .i64 r.num, .int .i64 r.kind, .int .i64 r.by_, .int .i64 r.dl, .int .i64 r.to_, .int .i64 r.want, .int .u64 (r.pr : Int), .int .u64 (r.rs : Int), .int .u64 (r.st : Int), .int .i64 r.of_, .slice r.A r.n r.c]] w fun e w' => e = .returned (.bool r.ok) ∧ Fr (fun _ => False) w w' := by
  have HAt := hide h
  have Hlen := hide h.len
  have hle := h.le
  clear h
  obtain ⟨num, kind, by_, dl, to_, want, pr, rs, st, of_, A, n, c, es⟩ := r
  simp only at HAt Hlen hle ⊢
  have HA2 := hide hle
  by_cases h1 : 16 < n
  · have hr : Hid (CR.ok ⟨num, kind, by_, dl, to_, want, pr, rs, st, of_, A, n, c, es⟩ = false) := by
      have : decide (es.length ≤ 16) = false := decide_eq_false (by have := Hlen.out; omega)
      show CR.ok _ = _; simp only [CR.ok, this, Bool.false_and]
    have i2 : (16 : Int) < (n : Int) := by omega
    clear h1
    go_enter Try.func72, Try.ntmps72
    go_wp2_with fail
    go_ret
    exact ⟨by rw [hr.out]; rfl, (Fr.refl _ _).alloc _⟩
  have i2 : decide ((16 : Int) < (n : Int)) = false := decide_eq_false (by omega)
  have hn16 : n ≤ 16 := by omega
  clear h1
  go_enter Try.func72, Try.ntmps72
  go_wp2_with fail
  go_loopw [12] (fun vi wr => ∃ j : Nat, j ≤ n ∧ vi = .int .i64 (j : Int) ∧ Hid ((es.take j).all ER.ok = true) ∧ Hid (Fr (fun _ => False) w wr) ∧ Hid (Bl wr w.heap.size 28 #[.int .i64 num, .int .i64 kind, .int .i64 by_, .int .i64 dl, .int .i64 to_, .int .i64 want, .int .u64 (pr : Int), .int .u64 (rs : Int), .int .u64 (st : Int), .int .i64 of_, .slice A n c])) (fun vi _ => n - (intOf vi).toNat)
  case atStart => exact ⟨0, Nat.zero_le _, rfl, rfl, (Fr.refl _ _).alloc _, Bl.new _ _ _⟩
  case round =>
    obtain ⟨wo, rfl⟩ : ∃ wo, wo = wr := ⟨_, rfl⟩
    obtain ⟨j, hj, rfl, hk, HF, HB⟩ := hrel
    by_cases hlt : j < n
    · have hjl : j < es.length := by rw [← (Hlen.out : n = es.length)]; exact hlt
      obtain ⟨b, o, hA, hc⟩ := (HAt.out.quiet HF.out).row hjl
      simp only at hA
      have HE : Hid ((es[j]).at_ wo) := (HAt.out.quiet HF.out).es _ (List.getElem_mem hjl)
      have Htk := hide (all_take hjl)
      have Hall := hide (fun hf => all_false hjl hf)
      obtain ⟨e, he⟩ : ∃ e, es[j] = e := ⟨_, rfl⟩
      simp only at hc
      rw [he] at hc HE Htk Hall
      obtain ⟨acc, item, co, pr2, A2, n2, c2, ws⟩ := e
      have d0 := hc 0 _ rfl
      rw [Nat.add_zero] at d0
      have d1 := hc 1 _ rfl
      have d2 := hc 2 _ rfl
      have d3 := hc 3 _ rfl
      have d4 := hc 4 _ rfl
      subst hA
      have i0 : (0 : Int) ≤ (j : Int) := by omega
      have i1 : (j : Int) < (n : Int) := by omega
      have q1 : IntKind.i64.wrap ((j : Int) + 1) = ((j + 1 : Nat) : Int) := by rw [IntWalk.i64_in _ (by omega)]; omega
      have Hlt := hide hlt
      have HC : Hid (∀ w1, Fr (fun _ => False) wo w1 → Calls Try.prog 83 #[.agg #[.int .i64 acc, .int .i64 item, .int .u64 (co : Int), .int .u64 (pr2 : Int), .slice A2 n2 c2]] w1 fun e w' => e = .returned (.bool (ER.ok ⟨acc, item, co, pr2, A2, n2, c2, ws⟩)) ∧ Fr (fun _ => False) w1 w') := fun w1 hf => entry_any w1 ⟨acc, item, co, pr2, A2, n2, c2, ws⟩ (HE.out.quiet hf)
      clear hc he hjl hlt hj HE
      go_wp2_with fail
      cases hok : ER.ok ⟨acc, item, co, pr2, A2, n2, c2, ws⟩ with
      | false =>
        have hr : Hid (CR.ok ⟨num, kind, by_, dl, to_, want, pr, rs, st, of_, some ⟨b, o, none⟩, n, c, es⟩ = false) := by
          have := Hall.out hok
          show CR.ok _ = _; simp only [CR.ok, this, Bool.and_false, Bool.false_and]
        refine (HC.out _ (by (repeat (first | with_reducible exact Fr.refl _ _ | with_reducible assumption | with_reducible refine Fr.drew ?_ | with_reducible refine Fr.drewN ?_ _ | with_reducible refine Fr.alloc ?_ _ | with_reducible refine Fr.setIn ?_ (by first | exact Or.inl rfl | exact Or.inr (by simp; done) | exact Or.inr (by simp; omega) | exact Or.inr (by omega)) _)))).mono ?_
        rintro e w1 ⟨rfl, hf1⟩
        have HF1 : Hid (Fr (fun _ => False) w w1) := HF.out.trans (Fr.trans (by (repeat (first | with_reducible exact Fr.refl _ _ | with_reducible assumption | with_reducible refine Fr.drew ?_ | with_reducible refine Fr.drewN ?_ _ | with_reducible refine Fr.alloc ?_ _ | with_reducible refine Fr.setIn ?_ (by first | exact Or.inl rfl | exact Or.inr (by simp; done) | exact Or.inr (by simp; omega) | exact Or.inr (by omega)) _))) hf1)
        rw [hok]
        clear hf1 hok
        go_wp2_with fail
        go_ret
        exact ⟨by rw [hr.out]; rfl, HF1.out⟩
      | true =>
        refine (HC.out _ (by (repeat (first | with_reducible exact Fr.refl _ _ | with_reducible assumption | with_reducible refine Fr.drew ?_ | with_reducible refine Fr.drewN ?_ _ | with_reducible refine Fr.alloc ?_ _ | with_reducible refine Fr.setIn ?_ (by first | exact Or.inl rfl | exact Or.inr (by simp; done) | exact Or.inr (by simp; omega) | exact Or.inr (by omega)) _)))).mono ?_
        rintro e w1 ⟨rfl, hf1⟩
        have hf01 : Fr (fun _ => False) wo w1 := Fr.trans (by (repeat (first | with_reducible exact Fr.refl _ _ | with_reducible assumption | with_reducible refine Fr.drew ?_ | with_reducible refine Fr.drewN ?_ _ | with_reducible refine Fr.alloc ?_ _ | with_reducible refine Fr.setIn ?_ (by first | exact Or.inl rfl | exact Or.inr (by simp; done) | exact Or.inr (by simp; omega) | exact Or.inr (by omega)) _))) hf1
        have HF1 := hide (HF.out.trans hf01)
        have HB1 := hide (HB.out.fr hf01 id)
        have hk2 : Hid ((es.take (j + 1)).all ER.ok = true) := by show _ = _; rw [Htk.out, hk.out, hok]; rfl
        rw [hok]
        clear hf1 hok hf01
        go_wp2_with fail
        have := Hlt.out
        exact ⟨⟨j + 1, by omega, by first | rfl | go_num, hk2, HF1, HB1⟩, by simp [intOf]; try omega⟩
    · have hall : es.all ER.ok = true := by have := hk.out; rwa [List.take_of_length_le (by rw [← (Hlen.out : n = es.length)]; omega)] at this
      have hr : Hid (CR.ok ⟨num, kind, by_, dl, to_, want, pr, rs, st, of_, A, n, c, es⟩ = okL [num, kind, by_, dl, to_, want, of_]) := by
        have : decide (es.length ≤ 16) = true := decide_eq_true (by have := (Hlen.out : n = es.length); omega)
        show CR.ok _ = _; simp only [CR.ok, this, hall, Bool.true_and]; rfl
      have HN := hide (numbers_lit wo [num, kind, by_, dl, to_, want, of_] wo.heap.size 7 rfl rfl (by omega) #[.int .i64 num, .int .i64 kind, .int .i64 by_, .int .i64 dl, .int .i64 to_, .int .i64 want, .int .i64 of_] rfl rfl)
      obtain rfl : j = n := by omega
      have c0 := HB.out.cell' (i := 0) rfl
      have c1 := HB.out.cell' (i := 1) rfl
      have c2 := HB.out.cell' (i := 2) rfl
      have c3 := HB.out.cell' (i := 3) rfl
      have c4 := HB.out.cell' (i := 4) rfl
      have c5 := HB.out.cell' (i := 5) rfl
      have c9 := HB.out.cell' (i := 9) rfl
      clear hlt hj hall hk
      go_wp2_with fail
      refine HN.out.mono ?_
      rintro e w' ⟨rfl, rfl⟩
      clear c0 c1 c2 c3 c4 c5 c9
      go_wp2_with fail
      go_ret
      exact ⟨by rw [hr.out]; rfl, HF.out.alloc _⟩
end Go.Proofs.Ytahhecendjfenaa
end
