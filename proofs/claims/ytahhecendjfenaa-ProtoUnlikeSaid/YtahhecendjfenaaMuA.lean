/-
  Texts merged into one, to keep the claim small: PdW, PdX.
-/
import Derived.Test.YtahhecendjfenaaMd15
import Derived.Test.YtahhecendjfenaaMd16
section
/-
  proto's law: same, ints, entry, where both differ: false. (printed by pr_unlike.py)
-/
namespace Go.Proofs.Ytahhecendjfenaa
open Go.RowKit
set_option linter.unusedVariables false
set_option linter.unusedSimpArgs false
theorem strOf_inj4 {a b : List Nat} (ha : ∀ x ∈ a, x < 256) (hb : ∀ x ∈ b, x < 256) (h : strOf a = strOf b) : a = b := by
  have h1 : (a.map UInt8.ofNat) = (b.map UInt8.ofNat) := by
    have := congrArg ByteArray.data h
    exact List.toArray_inj this
  have h2 : ∀ l : List Nat, (∀ x ∈ l, x < 256) → (l.map UInt8.ofNat).map UInt8.toNat = l := fun l hl => by
    rw [List.map_map]
    refine (List.map_congr_left fun x hx => ?_).trans (List.map_id l)
    have := hl x hx
    simp; omega
  rw [← h2 a ha, ← h2 b hb, h1]
set_option maxHeartbeats 1000000 in
set_option maxRecDepth 4000 in
theorem same27_false (w : World) (xs ys : List Nat) (A B : Option Addr) (c d n m : Nat) (hx : ∀ x ∈ xs, x < 256) (hy : ∀ x ∈ ys, x < 256) (hA : Sl w 1 A n (xs.map bn)) (hB : Sl w 1 B m (ys.map bn)) (hne : xs ≠ ys) :
    Calls Try.prog 14 #[.slice A n c, .slice B m d] w fun e w' => e = .returned (.bool false) ∧ w = w' := by
  have c1 := conv_bs w A n c xs hx hA
  have c2 := conv_bs w B m d ys hy hB
  obtain ⟨s1, hs1⟩ : ∃ str, strOf xs = str := ⟨_, rfl⟩
  obtain ⟨s2, hs2⟩ : ∃ str, strOf ys = str := ⟨_, rfl⟩
  have ne12 : ¬ s1 = s2 := fun e => hne (strOf_inj4 hx hy (by rw [hs1, hs2, e]))
  have k1 : (s1.toList == s2.toList) = false := by
    rw [beq_eq_false_iff_ne]
    intro e
    rw [ByteArray.toList_eq, ByteArray.toList_eq] at e
    exact ne12 (by cases s1; cases s2; congr 1; exact Array.toList_inj.1 e)
  rw [hs1] at c1
  rw [hs2] at c2
  clear hA hB hx hy hs1 hs2 hne
  go_enter Try.func14, Try.ntmps14
  go_wp2_with fail
  go_ret
  exact ⟨rfl, rfl⟩
set_option maxHeartbeats 1000000 in
set_option maxRecDepth 4000 in
theorem ints_ne (w : World) (xs ys : List Int) (A B : Option Addr) (c d n m : Nat) (hn : n = xs.length) (hm : m = ys.length) (h63 : n ≤ 9223372036854775806) (hA : Sl w 1 A n (xs.map iv)) (hB : Sl w 1 B m (ys.map iv)) (hne : xs ≠ ys) :
    Calls Try.prog 47 #[.slice A n c, .slice B m d] w fun e w' => e = .returned (.bool false) ∧ ∃ j, w' = w.drewN j := by
  by_cases hnm : n = m
  · subst hnm
    have Hn := hide hn
    have Hm := hide hm
    have Hne := hide hne
    clear hn hm hne
    go_enter Try.func47, Try.ntmps47
    go_wp2_with fail
    go_loopw [5] (fun i wr => ∃ (k m : Nat), k ≤ n ∧ i = .int .i64 k ∧ Hid (∀ j, j < k → xs[j]? = ys[j]?) ∧ Hid (wr = w.drewN m)) (fun i _ => n - (intOf i).toNat)
    case atStart => exact ⟨0, 0, Nat.zero_le _, rfl, fun j h => absurd h (by omega), rfl⟩
    case round =>
      obtain ⟨k, m, hk, rfl, HP, hw⟩ := hrel
      obtain rfl := hw.out
      clear hw
      by_cases hlt : k < n
      · have hkl : k < xs.length := by rw [← Hn.out]; exact hlt
        have hkl' : k < ys.length := by rw [← Hm.out]; exact hlt
        obtain ⟨z, hz⟩ : ∃ z, xs[k] = z := ⟨_, rfl⟩
        obtain ⟨y, hy⟩ : ∃ y, ys[k] = y := ⟨_, rfl⟩
        have hu : (xs.map iv)[k]? = some (.int .i64 z) := by rw [List.getElem?_map, List.getElem?_eq_getElem hkl, hz]; rfl
        have hv : (ys.map iv)[k]? = some (.int .i64 y) := by rw [List.getElem?_map, List.getElem?_eq_getElem hkl', hy]; rfl
        obtain ⟨b, o, rfl, ca⟩ := hA.at_ hu
        obtain ⟨b', o', rfl, cb⟩ := hB.at_ hv
        have HQ : Hid (z = y → ∀ j, j < k + 1 → xs[j]? = ys[j]?) := fun e j hj => by
          by_cases hjk : j = k
          · subst hjk
            rw [List.getElem?_eq_getElem hkl, List.getElem?_eq_getElem hkl', hz, hy, e]
          · exact HP.out j (by omega)
        clear hA hB hu hv hz hy hkl hkl' HP
        have i0 : (0 : Int) ≤ (k : Int) := by omega
        have i1 : (k : Int) < (n : Int) := by omega
        by_cases hzy : z = y
        · subst hzy
          go_wp2_with fail
          go_quiet (fail)
          go_wp2_with fail
          exact ⟨⟨k + 1, _, by omega, by go_num, HQ.out (by trivial), rfl⟩, by simp [intOf]; omega⟩
        · have k1 : (z == y) = false := by simpa using hzy
          clear HQ
          go_wp2_with fail
          go_quiet (fail)
          go_wp2_with fail
          go_ret
          exact ⟨rfl, _, World.drewN_drewN ..⟩
      · exfalso
        refine Hne.out (List.ext_getElem? fun j => ?_)
        by_cases hj : j < k
        · exact HP.out j hj
        · have e1 := Hn.out
          have e2 := Hm.out
          rw [List.getElem?_eq_none (by omega), List.getElem?_eq_none (by omega)]
  · have k1 : ((n : Int) == (m : Int)) = false := by
      simp only [beq_eq_false_iff_ne]; omega
    have k2 : ¬ (n : Int) = (m : Int) := by omega
    clear hA hB hn hm hne
    go_enter Try.func47, Try.ntmps47
    go_wp2_with fail
    go_ret
    exact ⟨rfl, 0, rfl⟩
set_option maxHeartbeats 1000000 in
set_option maxRecDepth 4000 in
theorem entryUnlike_any (w : World) (a b : ER) (hl : ¬ a.like b) (ha : a.at_ w) (hb : b.at_ w) :
    Calls Try.prog 53 #[.agg #[.int .i64 a.acc, .int .i64 a.item, .int .u64 (a.co : Int), .int .u64 (a.pr : Int), .slice a.A a.n a.c], .agg #[.int .i64 b.acc, .int .i64 b.item, .int .u64 (b.co : Int), .int .u64 (b.pr : Int), .slice b.A b.n b.c]] w fun e w' => e = .returned (.bool false) ∧ Fr (fun _ => False) w w' := by
  have e1 := ha.sl.ilen
  have e2 := hb.sl.ilen
  have l1 := ha.le
  have S1 := hide ha.sl
  have S2 := hide hb.sl
  obtain ⟨acc, item, co, pr, A, n, c, ws⟩ := a
  obtain ⟨acc', item', co', pr', A', n', c', ws'⟩ := b
  have hl' : ¬ (acc = acc' ∧ item = item' ∧ co = co' ∧ pr = pr' ∧ ws = ws') := hl
  simp only at e1 e2 l1 S1 S2 ⊢
  have HC : Hid (ws ≠ ws' → ∀ w1, Fr (fun _ => False) w w1 → Calls Try.prog 47 #[.slice A n c, .slice A' n' c'] w1 fun e w' => e = .returned (.bool false) ∧ ∃ m, w' = w1.drewN m) := fun h w1 hf => ints_ne w1 ws ws' A A' c c' n n' e1 e2 (by omega) (S1.out.quiet hf) (S2.out.quiet hf) h
  clear e1 e2 l1 S1 S2 ha hb hl
  have HL := hide hl'
  clear hl'
  go_enter Try.func53, Try.ntmps53
  by_cases h1 : acc = acc'
  · subst h1
    by_cases h2 : item = item'
    · subst h2
      by_cases h3 : co = co'
      · subst h3
        by_cases h4 : pr = pr'
        · subst h4
          have HC2 := hide (HC.out fun h => HL.out ⟨rfl, rfl, rfl, rfl, h⟩)
          clear HC HL
          go_wp2_with fail
          refine (HC2.out _ (by (repeat (first | with_reducible exact Fr.refl _ _ | with_reducible assumption | with_reducible refine Fr.drew ?_ | with_reducible refine Fr.drewN ?_ _ | with_reducible refine Fr.alloc ?_ _ | with_reducible refine Fr.setIn ?_ (by first | exact Or.inl rfl | exact Or.inr (by simp; done) | exact Or.inr (by simp; omega) | exact Or.inr (by omega)) _)))).mono ?_
          rintro e w1 ⟨rfl, hd⟩
          have HF : Hid (Fr (fun _ => False) w w1) := Fr.trans (by (repeat (first | with_reducible exact Fr.refl _ _ | with_reducible assumption | with_reducible refine Fr.drew ?_ | with_reducible refine Fr.drewN ?_ _ | with_reducible refine Fr.alloc ?_ _ | with_reducible refine Fr.setIn ?_ (by first | exact Or.inl rfl | exact Or.inr (by simp; done) | exact Or.inr (by simp; omega) | exact Or.inr (by omega)) _))) (fr_of_drewN hd)
          clear hd
          go_wp2_with fail
          go_ret
          exact ⟨rfl, HF.out⟩
        · have k1 : ((pr : Int) == (pr' : Int)) = false := by simp only [beq_eq_false_iff_ne]; omega
          have k2 : ¬ (pr : Int) = (pr' : Int) := by omega
          clear HC HL
          go_wp2_with fail
          go_ret
          exact ⟨rfl, by (repeat (first | with_reducible exact Fr.refl _ _ | with_reducible assumption | with_reducible refine Fr.drew ?_ | with_reducible refine Fr.drewN ?_ _ | with_reducible refine Fr.alloc ?_ _ | with_reducible refine Fr.setIn ?_ (by first | exact Or.inl rfl | exact Or.inr (by simp; done) | exact Or.inr (by simp; omega) | exact Or.inr (by omega)) _))⟩
      · have k1 : ((co : Int) == (co' : Int)) = false := by simp only [beq_eq_false_iff_ne]; omega
        have k2 : ¬ (co : Int) = (co' : Int) := by omega
        clear HC HL
        go_wp2_with fail
        go_ret
        exact ⟨rfl, by (repeat (first | with_reducible exact Fr.refl _ _ | with_reducible assumption | with_reducible refine Fr.drew ?_ | with_reducible refine Fr.drewN ?_ _ | with_reducible refine Fr.alloc ?_ _ | with_reducible refine Fr.setIn ?_ (by first | exact Or.inl rfl | exact Or.inr (by simp; done) | exact Or.inr (by simp; omega) | exact Or.inr (by omega)) _))⟩
    · have k1 : (item == item') = false := by simp only [beq_eq_false_iff_ne]; omega
      have k2 : ¬ (item : Int) = (item' : Int) := by omega
      clear HC HL
      go_wp2_with fail
      go_ret
      exact ⟨rfl, by (repeat (first | with_reducible exact Fr.refl _ _ | with_reducible assumption | with_reducible refine Fr.drew ?_ | with_reducible refine Fr.drewN ?_ _ | with_reducible refine Fr.alloc ?_ _ | with_reducible refine Fr.setIn ?_ (by first | exact Or.inl rfl | exact Or.inr (by simp; done) | exact Or.inr (by simp; omega) | exact Or.inr (by omega)) _))⟩
  · have k1 : (acc == acc') = false := by simp only [beq_eq_false_iff_ne]; omega
    have k2 : ¬ (acc : Int) = (acc' : Int) := by omega
    clear HC HL
    go_wp2_with fail
    go_ret
    exact ⟨rfl, by (repeat (first | with_reducible exact Fr.refl _ _ | with_reducible assumption | with_reducible refine Fr.drew ?_ | with_reducible refine Fr.drewN ?_ _ | with_reducible refine Fr.alloc ?_ _ | with_reducible refine Fr.setIn ?_ (by first | exact Or.inl rfl | exact Or.inr (by simp; done) | exact Or.inr (by simp; omega) | exact Or.inr (by omega)) _))⟩
end Go.Proofs.Ytahhecendjfenaa
end

section
/-
  proto's law: contract, where both differ: false. (printed by pr_unlike.py)
-/
namespace Go.Proofs.Ytahhecendjfenaa
open Go.RowKit
set_option linter.unusedVariables false
set_option linter.unusedSimpArgs false
set_option maxHeartbeats 8000000 in
set_option maxRecDepth 8000 in
theorem contractUnlike_any (w : World) (a b : CR) (hl : ¬ a.like b) (ha : a.at_ w) (hb : b.at_ w) :
    Calls Try.prog 48 #[.agg #[.int .i64 a.num, .int .i64 a.kind, .int .i64 a.by_, .int .i64 a.dl, .int .i64 a.to_, .int .i64 a.want, .int .u64 (a.pr : Int), .int .u64 (a.rs : Int), .int .u64 (a.st : Int), .int .i64 a.of_, .slice a.A a.n a.c], .agg #[.int .i64 b.num, .int .i64 b.kind, .int .i64 b.by_, .int .i64 b.dl, .int .i64 b.to_, .int .i64 b.want, .int .u64 (b.pr : Int), .int .u64 (b.rs : Int), .int .u64 (b.st : Int), .int .i64 b.of_, .slice b.A b.n b.c]] w fun e w' => e = .returned (.bool false) ∧ Fr (fun _ => False) w w' := by
  have e1 := ha.len
  have e2 := hb.len
  have hle := ha.le
  have HA := hide ha
  have HB := hide hb
  obtain ⟨num, kind, by_, dl, to_, want, pr, rs, st, of_, A, n, c, es⟩ := a
  obtain ⟨num', kind', by_', dl', to_', want', pr', rs', st', of_', A', n', c', es'⟩ := b
  have HL : Hid (¬ (num = num' ∧ kind = kind' ∧ by_ = by_' ∧ dl = dl' ∧ to_ = to_' ∧ want = want' ∧ pr = pr' ∧ rs = rs' ∧ st = st' ∧ of_ = of_' ∧ es.length = es'.length ∧ ∀ i (h : i < es.length) (h' : i < es'.length), (es[i]).like es'[i])) := fun ⟨q0, q1, q2, q3, q4, q5, q6, q7, q8, q9, q10, q11⟩ => hl ⟨q0, q1, q2, q3, q4, q5, q6, q7, q8, q9, q10, q11⟩
  simp only at e1 e2 hle HA HB ⊢
  have E1 := hide e1
  have E2 := hide e2
  clear e1 e2 ha hb hl
  go_enter Try.func48, Try.ntmps48
  by_cases h1 : num = num'
  · subst h1
    by_cases h2 : kind = kind'
    · subst h2
      by_cases h3 : by_ = by_'
      · subst h3
        by_cases h4 : dl = dl'
        · subst h4
          by_cases h5 : to_ = to_'
          · subst h5
            by_cases h6 : want = want'
            · subst h6
              by_cases h7 : pr = pr'
              · subst h7
                by_cases h8 : rs = rs'
                · subst h8
                  by_cases h9 : st = st'
                  · subst h9
                    by_cases h10 : of_ = of_'
                    · subst h10
                      by_cases hnm : n = n'
                      · subst hnm
                        have HL2 : Hid (¬ ∀ i (h : i < es.length) (h' : i < es'.length), (es[i]).like es'[i]) := fun q => HL.out ⟨rfl, rfl, rfl, rfl, rfl, rfl, rfl, rfl, rfl, rfl, E1.out.symm.trans E2.out, q⟩
                        clear HL
                        have HB0 : Hid (Bl ((w.alloc (.cells #[.int .i64 num, .int .i64 kind, .int .i64 by_, .int .i64 dl, .int .i64 to_, .int .i64 want, .int .u64 (pr : Int), .int .u64 (rs : Int), .int .u64 (st : Int), .int .i64 of_, .slice A n c] tCon)).alloc (.cells #[.int .i64 num, .int .i64 kind, .int .i64 by_, .int .i64 dl, .int .i64 to_, .int .i64 want, .int .u64 (pr : Int), .int .u64 (rs : Int), .int .u64 (st : Int), .int .i64 of_, .slice A' n c'] tCon)) w.heap.size tCon #[.int .i64 num, .int .i64 kind, .int .i64 by_, .int .i64 dl, .int .i64 to_, .int .i64 want, .int .u64 (pr : Int), .int .u64 (rs : Int), .int .u64 (st : Int), .int .i64 of_, .slice A n c]) := (Bl.new _ _ _).alloc _
                        have HB1 : Hid (Bl ((w.alloc (.cells #[.int .i64 num, .int .i64 kind, .int .i64 by_, .int .i64 dl, .int .i64 to_, .int .i64 want, .int .u64 (pr : Int), .int .u64 (rs : Int), .int .u64 (st : Int), .int .i64 of_, .slice A n c] tCon)).alloc (.cells #[.int .i64 num, .int .i64 kind, .int .i64 by_, .int .i64 dl, .int .i64 to_, .int .i64 want, .int .u64 (pr : Int), .int .u64 (rs : Int), .int .u64 (st : Int), .int .i64 of_, .slice A' n c'] tCon)) (w.heap.size + 1) tCon #[.int .i64 num, .int .i64 kind, .int .i64 by_, .int .i64 dl, .int .i64 to_, .int .i64 want, .int .u64 (pr : Int), .int .u64 (rs : Int), .int .u64 (st : Int), .int .i64 of_, .slice A' n c']) := Bl.newAt (by simp)
                        have HF0 : Hid (Fr (fun _ => False) w ((w.alloc (.cells #[.int .i64 num, .int .i64 kind, .int .i64 by_, .int .i64 dl, .int .i64 to_, .int .i64 want, .int .u64 (pr : Int), .int .u64 (rs : Int), .int .u64 (st : Int), .int .i64 of_, .slice A n c] tCon)).alloc (.cells #[.int .i64 num, .int .i64 kind, .int .i64 by_, .int .i64 dl, .int .i64 to_, .int .i64 want, .int .u64 (pr : Int), .int .u64 (rs : Int), .int .u64 (st : Int), .int .i64 of_, .slice A' n c'] tCon))) := ((Fr.refl _ _).alloc _).alloc _
                        go_wp2_with fail
                        go_loopw [5] (fun i wr => ∃ (k : Nat), k ≤ n ∧ i = .int .i64 k ∧ Hid (∀ j (h : j < es.length) (h' : j < es'.length), j < k → (es[j]).like es'[j]) ∧ Hid (Fr (fun _ => False) ((w.alloc (.cells #[.int .i64 num, .int .i64 kind, .int .i64 by_, .int .i64 dl, .int .i64 to_, .int .i64 want, .int .u64 (pr : Int), .int .u64 (rs : Int), .int .u64 (st : Int), .int .i64 of_, .slice A n c] tCon)).alloc (.cells #[.int .i64 num, .int .i64 kind, .int .i64 by_, .int .i64 dl, .int .i64 to_, .int .i64 want, .int .u64 (pr : Int), .int .u64 (rs : Int), .int .u64 (st : Int), .int .i64 of_, .slice A' n c'] tCon)) wr)) (fun i _ => n - (intOf i).toNat)
                        case atStart => exact ⟨0, Nat.zero_le _, rfl, fun j _ _ h => absurd h (by omega), Fr.refl _ _⟩
                        case round =>
                          obtain ⟨wo, rfl⟩ : ∃ wo, wo = wr := ⟨_, rfl⟩
                          obtain ⟨k, hk, rfl, HP, HF⟩ := hrel
                          obtain ⟨w0, hw0⟩ : ∃ w0, w0 = ((w.alloc (.cells #[.int .i64 num, .int .i64 kind, .int .i64 by_, .int .i64 dl, .int .i64 to_, .int .i64 want, .int .u64 (pr : Int), .int .u64 (rs : Int), .int .u64 (st : Int), .int .i64 of_, .slice A n c] tCon)).alloc (.cells #[.int .i64 num, .int .i64 kind, .int .i64 by_, .int .i64 dl, .int .i64 to_, .int .i64 want, .int .u64 (pr : Int), .int .u64 (rs : Int), .int .u64 (st : Int), .int .i64 of_, .slice A' n c'] tCon)) := ⟨_, rfl⟩
                          rw [← hw0] at HB0 HB1 HF0 HF
                          have Hw0 := hide hw0
                          clear hw0
                          have bx0 := (HB0.out.fr HF.out id).cell' (i := 10) rfl
                          have bx1 := (HB1.out.fr HF.out id).cell' (i := 10) rfl
                          by_cases hlt : k < n
                          · have hkl : k < es.length := by rw [← (E1.out : n = es.length)]; exact hlt
                            have hkl' : k < es'.length := by rw [← (E2.out : n = es'.length)]; exact hlt
                            have hfo := HF0.out.trans HF.out
                            obtain ⟨b, o, hA, hc⟩ := (HA.out.quiet hfo).row hkl
                            obtain ⟨b', o', hA', hc'⟩ := (HB.out.quiet hfo).row hkl'
                            simp only at hA hA' hc hc'
                            have HE : Hid ((es[k]).at_ wo) := (HA.out.quiet hfo).es _ (List.getElem_mem hkl)
                            have HE' : Hid ((es'[k]).at_ wo) := (HB.out.quiet hfo).es _ (List.getElem_mem hkl')
                            by_cases hlk : (es[k]).like (es'[k])
                            · have Hlike : Hid ((es[k]).like (es'[k])) := hlk
                              have HQ : Hid (∀ j (h : j < es.length) (h' : j < es'.length), j < k + 1 → (es[j]).like es'[j]) := fun j h h' hj => by
                                by_cases hjk : j = k
                                · subst hjk; exact Hlike.out
                                · exact HP.out j h h' (by omega)
                              clear hfo
                              obtain ⟨e, he⟩ : ∃ e, es[k] = e := ⟨_, rfl⟩
                              obtain ⟨e', he'⟩ : ∃ e', es'[k] = e' := ⟨_, rfl⟩
                              rw [he] at hc HE Hlike
                              rw [he'] at hc' HE' Hlike
                              clear he he'
                              have HC : Hid (∀ w1, Fr (fun _ => False) wo w1 → Calls Try.prog 53 #[.agg #[.int .i64 e.acc, .int .i64 e.item, .int .u64 (e.co : Int), .int .u64 (e.pr : Int), .slice e.A e.n e.c], .agg #[.int .i64 e'.acc, .int .i64 e'.item, .int .u64 (e'.co : Int), .int .u64 (e'.pr : Int), .slice e'.A e'.n e'.c]] w1 fun x w' => x = .returned (.bool true) ∧ Fr (fun _ => False) w1 w') := fun w1 hf => entryLike_any w1 e e' Hlike.out (HE.out.quiet hf) (HE'.out.quiet hf)
                              obtain ⟨acc, item, co, pq, X, xn, xc, ws⟩ := e
                              obtain ⟨acc', item', co', pq', X', xn', xc', ws'⟩ := e'
                              simp only at HC
                              have d0 := hc 0 _ rfl
                              rw [Nat.add_zero] at d0
                              have d1 := hc 1 _ rfl
                              have d2 := hc 2 _ rfl
                              have d3 := hc 3 _ rfl
                              have d4 := hc 4 _ rfl
                              have q0 := hc' 0 _ rfl
                              rw [Nat.add_zero] at q0
                              have q1 := hc' 1 _ rfl
                              have q2 := hc' 2 _ rfl
                              have q3 := hc' 3 _ rfl
                              have q4 := hc' 4 _ rfl
                              subst hA hA'
                              have i0 : (0 : Int) ≤ (k : Int) := by omega
                              have i1 : (k : Int) < (n : Int) := by omega
                              have i2 : IntKind.i64.wrap ((k : Int) + 1) = ((k + 1 : Nat) : Int) := by rw [IntWalk.i64_in _ (by omega)]; omega
                              have Hlt := hide hlt
                              clear hc hc' hkl hkl' hlt hk HE HE' Hlike HA HB HL2 HP hlk HB0 HB1 HF0
                              go_wp2_with fail
                              go_region_held3 (fun w' => w'.cell? ⟨w.heap.size, 10, none⟩ = some (.slice (some ⟨b, o, none⟩) n c) ∧ w'.cell? ⟨w.heap.size + 1, 10, none⟩ = some (.slice (some ⟨b', o', none⟩) n c') ∧ w'.cell? ⟨b, o + k * 5, none⟩ = some (.int .i64 acc) ∧ w'.cell? ⟨b, o + k * 5 + 1, none⟩ = some (.int .i64 item) ∧ w'.cell? ⟨b, o + k * 5 + 2, none⟩ = some (.int .u64 (co : Int)) ∧ w'.cell? ⟨b, o + k * 5 + 3, none⟩ = some (.int .u64 (pq : Int)) ∧ w'.cell? ⟨b, o + k * 5 + 4, none⟩ = some (.slice X xn xc) ∧ w'.cell? ⟨b', o' + k * 5, none⟩ = some (.int .i64 acc') ∧ w'.cell? ⟨b', o' + k * 5 + 1, none⟩ = some (.int .i64 item') ∧ w'.cell? ⟨b', o' + k * 5 + 2, none⟩ = some (.int .u64 (co' : Int)) ∧ w'.cell? ⟨b', o' + k * 5 + 3, none⟩ = some (.int .u64 (pq' : Int)) ∧ w'.cell? ⟨b', o' + k * 5 + 4, none⟩ = some (.slice X' xn' xc')) (go_keep)
                                ((go_at_call 53; refine (HC.out _ (by exact (Fr.refl (fun _ => False) _).drew)).mono ?_; rintro x w4 ⟨rfl, hf4⟩; have bx0y := (hf4.cell (World.block_lt_of_cell? wo _ bx0) id).trans bx0; have bx1y := (hf4.cell (World.block_lt_of_cell? wo _ bx1) id).trans bx1; have d0y := (hf4.cell (World.block_lt_of_cell? wo _ d0) id).trans d0; have d1y := (hf4.cell (World.block_lt_of_cell? wo _ d1) id).trans d1; have d2y := (hf4.cell (World.block_lt_of_cell? wo _ d2) id).trans d2; have d3y := (hf4.cell (World.block_lt_of_cell? wo _ d3) id).trans d3; have d4y := (hf4.cell (World.block_lt_of_cell? wo _ d4) id).trans d4; have q0y := (hf4.cell (World.block_lt_of_cell? wo _ q0) id).trans q0; have q1y := (hf4.cell (World.block_lt_of_cell? wo _ q1) id).trans q1; have q2y := (hf4.cell (World.block_lt_of_cell? wo _ q2) id).trans q2; have q3y := (hf4.cell (World.block_lt_of_cell? wo _ q3) id).trans q3; have q4y := (hf4.cell (World.block_lt_of_cell? wo _ q4) id).trans q4))
                              have HF4 : Hid (Fr (fun _ => False) w0 w4) := HF.out.trans (Fr.trans ((Fr.refl _ _).drew) hf4)
                              clear hf4 d0 d1 d2 d3 d4 q0 q1 q2 q3 q4 bx0 bx1 bx0y bx1y d0y d1y d2y d3y d4y q0y q1y q2y q3y q4y
                              go_wp2_with fail
                              have := Hlt.out
                              exact ⟨⟨k + 1, by omega, by first | rfl | go_num, HQ.out, by rw [← Hw0.out]; exact HF4⟩, by simp [intOf]; try omega⟩
                            · have Hlike : Hid (¬ (es[k]).like (es'[k])) := hlk
                              have HFo := hide hfo
                              clear hfo
                              obtain ⟨e, he⟩ : ∃ e, es[k] = e := ⟨_, rfl⟩
                              obtain ⟨e', he'⟩ : ∃ e', es'[k] = e' := ⟨_, rfl⟩
                              rw [he] at hc HE Hlike
                              rw [he'] at hc' HE' Hlike
                              clear he he'
                              have HC : Hid (∀ w1, Fr (fun _ => False) wo w1 → Calls Try.prog 53 #[.agg #[.int .i64 e.acc, .int .i64 e.item, .int .u64 (e.co : Int), .int .u64 (e.pr : Int), .slice e.A e.n e.c], .agg #[.int .i64 e'.acc, .int .i64 e'.item, .int .u64 (e'.co : Int), .int .u64 (e'.pr : Int), .slice e'.A e'.n e'.c]] w1 fun x w' => x = .returned (.bool false) ∧ Fr (fun _ => False) w1 w') := fun w1 hf => entryUnlike_any w1 e e' Hlike.out (HE.out.quiet hf) (HE'.out.quiet hf)
                              obtain ⟨acc, item, co, pq, X, xn, xc, ws⟩ := e
                              obtain ⟨acc', item', co', pq', X', xn', xc', ws'⟩ := e'
                              simp only at HC
                              have d0 := hc 0 _ rfl
                              rw [Nat.add_zero] at d0
                              have d1 := hc 1 _ rfl
                              have d2 := hc 2 _ rfl
                              have d3 := hc 3 _ rfl
                              have d4 := hc 4 _ rfl
                              have q0 := hc' 0 _ rfl
                              rw [Nat.add_zero] at q0
                              have q1 := hc' 1 _ rfl
                              have q2 := hc' 2 _ rfl
                              have q3 := hc' 3 _ rfl
                              have q4 := hc' 4 _ rfl
                              subst hA hA'
                              have i0 : (0 : Int) ≤ (k : Int) := by omega
                              have i1 : (k : Int) < (n : Int) := by omega
                              have i2 : IntKind.i64.wrap ((k : Int) + 1) = ((k + 1 : Nat) : Int) := by rw [IntWalk.i64_in _ (by omega)]; omega
                              have Hlt := hide hlt
                              clear hc hc' hkl hkl' hlt hk HE HE' Hlike HA HB HL2 HP hlk HB0 HB1 HF0
                              go_wp2_with fail
                              go_region_held3 (fun w' => w'.cell? ⟨w.heap.size, 10, none⟩ = some (.slice (some ⟨b, o, none⟩) n c) ∧ w'.cell? ⟨w.heap.size + 1, 10, none⟩ = some (.slice (some ⟨b', o', none⟩) n c') ∧ w'.cell? ⟨b, o + k * 5, none⟩ = some (.int .i64 acc) ∧ w'.cell? ⟨b, o + k * 5 + 1, none⟩ = some (.int .i64 item) ∧ w'.cell? ⟨b, o + k * 5 + 2, none⟩ = some (.int .u64 (co : Int)) ∧ w'.cell? ⟨b, o + k * 5 + 3, none⟩ = some (.int .u64 (pq : Int)) ∧ w'.cell? ⟨b, o + k * 5 + 4, none⟩ = some (.slice X xn xc) ∧ w'.cell? ⟨b', o' + k * 5, none⟩ = some (.int .i64 acc') ∧ w'.cell? ⟨b', o' + k * 5 + 1, none⟩ = some (.int .i64 item') ∧ w'.cell? ⟨b', o' + k * 5 + 2, none⟩ = some (.int .u64 (co' : Int)) ∧ w'.cell? ⟨b', o' + k * 5 + 3, none⟩ = some (.int .u64 (pq' : Int)) ∧ w'.cell? ⟨b', o' + k * 5 + 4, none⟩ = some (.slice X' xn' xc')) (go_keep)
                                ((go_at_call 53; refine (HC.out _ (by exact (Fr.refl (fun _ => False) _).drew)).mono ?_; rintro x w4 ⟨rfl, hf4⟩; have bx0y := (hf4.cell (World.block_lt_of_cell? wo _ bx0) id).trans bx0; have bx1y := (hf4.cell (World.block_lt_of_cell? wo _ bx1) id).trans bx1; have d0y := (hf4.cell (World.block_lt_of_cell? wo _ d0) id).trans d0; have d1y := (hf4.cell (World.block_lt_of_cell? wo _ d1) id).trans d1; have d2y := (hf4.cell (World.block_lt_of_cell? wo _ d2) id).trans d2; have d3y := (hf4.cell (World.block_lt_of_cell? wo _ d3) id).trans d3; have d4y := (hf4.cell (World.block_lt_of_cell? wo _ d4) id).trans d4; have q0y := (hf4.cell (World.block_lt_of_cell? wo _ q0) id).trans q0; have q1y := (hf4.cell (World.block_lt_of_cell? wo _ q1) id).trans q1; have q2y := (hf4.cell (World.block_lt_of_cell? wo _ q2) id).trans q2; have q3y := (hf4.cell (World.block_lt_of_cell? wo _ q3) id).trans q3; have q4y := (hf4.cell (World.block_lt_of_cell? wo _ q4) id).trans q4))
                              have HF4 : Hid (Fr (fun _ => False) w w4) := HFo.out.trans (Fr.trans ((Fr.refl _ _).drew) hf4)
                              clear hf4 d0 d1 d2 d3 d4 q0 q1 q2 q3 q4 bx0 bx1 bx0y bx1y d0y d1y d2y d3y d4y q0y q1y q2y q3y q4y
                              go_wp2_with fail
                              go_ret
                              exact ⟨rfl, HF4.out⟩
                          · exfalso
                            refine HL2.out fun i h h' => HP.out i h h' ?_
                            have := E1.out
                            omega
                      · have k1 : ((n : Int) == (n' : Int)) = false := by simp only [beq_eq_false_iff_ne]; omega
                        have k2 : ¬ (n : Int) = (n' : Int) := by omega
                        clear HL HA HB E1 E2
                        go_wp2_with fail
                        go_ret
                        exact ⟨rfl, by (repeat (first | with_reducible exact Fr.refl _ _ | with_reducible assumption | with_reducible refine Fr.drew ?_ | with_reducible refine Fr.drewN ?_ _ | with_reducible refine Fr.alloc ?_ _ | with_reducible refine Fr.setIn ?_ (by first | exact Or.inl rfl | exact Or.inr (by simp; done) | exact Or.inr (by simp; omega) | exact Or.inr (by omega)) _))⟩
                    · have k1 : (of_ == of_') = false := by simp only [beq_eq_false_iff_ne]; omega
                      have k2 : ¬ (of_ : Int) = (of_' : Int) := by omega
                      clear HL HA HB E1 E2
                      go_wp2_with fail
                      go_ret
                      exact ⟨rfl, by (repeat (first | with_reducible exact Fr.refl _ _ | with_reducible assumption | with_reducible refine Fr.drew ?_ | with_reducible refine Fr.drewN ?_ _ | with_reducible refine Fr.alloc ?_ _ | with_reducible refine Fr.setIn ?_ (by first | exact Or.inl rfl | exact Or.inr (by simp; done) | exact Or.inr (by simp; omega) | exact Or.inr (by omega)) _))⟩
                  · have k1 : ((st : Int) == (st' : Int)) = false := by simp only [beq_eq_false_iff_ne]; omega
                    have k2 : ¬ (st : Int) = (st' : Int) := by omega
                    clear HL HA HB E1 E2
                    go_wp2_with fail
                    go_ret
                    exact ⟨rfl, by (repeat (first | with_reducible exact Fr.refl _ _ | with_reducible assumption | with_reducible refine Fr.drew ?_ | with_reducible refine Fr.drewN ?_ _ | with_reducible refine Fr.alloc ?_ _ | with_reducible refine Fr.setIn ?_ (by first | exact Or.inl rfl | exact Or.inr (by simp; done) | exact Or.inr (by simp; omega) | exact Or.inr (by omega)) _))⟩
                · have k1 : ((rs : Int) == (rs' : Int)) = false := by simp only [beq_eq_false_iff_ne]; omega
                  have k2 : ¬ (rs : Int) = (rs' : Int) := by omega
                  clear HL HA HB E1 E2
                  go_wp2_with fail
                  go_ret
                  exact ⟨rfl, by (repeat (first | with_reducible exact Fr.refl _ _ | with_reducible assumption | with_reducible refine Fr.drew ?_ | with_reducible refine Fr.drewN ?_ _ | with_reducible refine Fr.alloc ?_ _ | with_reducible refine Fr.setIn ?_ (by first | exact Or.inl rfl | exact Or.inr (by simp; done) | exact Or.inr (by simp; omega) | exact Or.inr (by omega)) _))⟩
              · have k1 : ((pr : Int) == (pr' : Int)) = false := by simp only [beq_eq_false_iff_ne]; omega
                have k2 : ¬ (pr : Int) = (pr' : Int) := by omega
                clear HL HA HB E1 E2
                go_wp2_with fail
                go_ret
                exact ⟨rfl, by (repeat (first | with_reducible exact Fr.refl _ _ | with_reducible assumption | with_reducible refine Fr.drew ?_ | with_reducible refine Fr.drewN ?_ _ | with_reducible refine Fr.alloc ?_ _ | with_reducible refine Fr.setIn ?_ (by first | exact Or.inl rfl | exact Or.inr (by simp; done) | exact Or.inr (by simp; omega) | exact Or.inr (by omega)) _))⟩
            · have k1 : (want == want') = false := by simp only [beq_eq_false_iff_ne]; omega
              have k2 : ¬ (want : Int) = (want' : Int) := by omega
              clear HL HA HB E1 E2
              go_wp2_with fail
              go_ret
              exact ⟨rfl, by (repeat (first | with_reducible exact Fr.refl _ _ | with_reducible assumption | with_reducible refine Fr.drew ?_ | with_reducible refine Fr.drewN ?_ _ | with_reducible refine Fr.alloc ?_ _ | with_reducible refine Fr.setIn ?_ (by first | exact Or.inl rfl | exact Or.inr (by simp; done) | exact Or.inr (by simp; omega) | exact Or.inr (by omega)) _))⟩
          · have k1 : (to_ == to_') = false := by simp only [beq_eq_false_iff_ne]; omega
            have k2 : ¬ (to_ : Int) = (to_' : Int) := by omega
            clear HL HA HB E1 E2
            go_wp2_with fail
            go_ret
            exact ⟨rfl, by (repeat (first | with_reducible exact Fr.refl _ _ | with_reducible assumption | with_reducible refine Fr.drew ?_ | with_reducible refine Fr.drewN ?_ _ | with_reducible refine Fr.alloc ?_ _ | with_reducible refine Fr.setIn ?_ (by first | exact Or.inl rfl | exact Or.inr (by simp; done) | exact Or.inr (by simp; omega) | exact Or.inr (by omega)) _))⟩
        · have k1 : (dl == dl') = false := by simp only [beq_eq_false_iff_ne]; omega
          have k2 : ¬ (dl : Int) = (dl' : Int) := by omega
          clear HL HA HB E1 E2
          go_wp2_with fail
          go_ret
          exact ⟨rfl, by (repeat (first | with_reducible exact Fr.refl _ _ | with_reducible assumption | with_reducible refine Fr.drew ?_ | with_reducible refine Fr.drewN ?_ _ | with_reducible refine Fr.alloc ?_ _ | with_reducible refine Fr.setIn ?_ (by first | exact Or.inl rfl | exact Or.inr (by simp; done) | exact Or.inr (by simp; omega) | exact Or.inr (by omega)) _))⟩
      · have k1 : (by_ == by_') = false := by simp only [beq_eq_false_iff_ne]; omega
        have k2 : ¬ (by_ : Int) = (by_' : Int) := by omega
        clear HL HA HB E1 E2
        go_wp2_with fail
        go_ret
        exact ⟨rfl, by (repeat (first | with_reducible exact Fr.refl _ _ | with_reducible assumption | with_reducible refine Fr.drew ?_ | with_reducible refine Fr.drewN ?_ _ | with_reducible refine Fr.alloc ?_ _ | with_reducible refine Fr.setIn ?_ (by first | exact Or.inl rfl | exact Or.inr (by simp; done) | exact Or.inr (by simp; omega) | exact Or.inr (by omega)) _))⟩
    · have k1 : (kind == kind') = false := by simp only [beq_eq_false_iff_ne]; omega
      have k2 : ¬ (kind : Int) = (kind' : Int) := by omega
      clear HL HA HB E1 E2
      go_wp2_with fail
      go_ret
      exact ⟨rfl, by (repeat (first | with_reducible exact Fr.refl _ _ | with_reducible assumption | with_reducible refine Fr.drew ?_ | with_reducible refine Fr.drewN ?_ _ | with_reducible refine Fr.alloc ?_ _ | with_reducible refine Fr.setIn ?_ (by first | exact Or.inl rfl | exact Or.inr (by simp; done) | exact Or.inr (by simp; omega) | exact Or.inr (by omega)) _))⟩
  · have k1 : (num == num') = false := by simp only [beq_eq_false_iff_ne]; omega
    have k2 : ¬ (num : Int) = (num' : Int) := by omega
    clear HL HA HB E1 E2
    go_wp2_with fail
    go_ret
    exact ⟨rfl, by (repeat (first | with_reducible exact Fr.refl _ _ | with_reducible assumption | with_reducible refine Fr.drew ?_ | with_reducible refine Fr.drewN ?_ _ | with_reducible refine Fr.alloc ?_ _ | with_reducible refine Fr.setIn ?_ (by first | exact Or.inl rfl | exact Or.inr (by simp; done) | exact Or.inr (by simp; omega) | exact Or.inr (by omega)) _))⟩
end Go.Proofs.Ytahhecendjfenaa
end
