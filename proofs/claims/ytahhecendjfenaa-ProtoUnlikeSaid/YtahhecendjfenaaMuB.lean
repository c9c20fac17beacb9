/-
  Texts merged into one, to keep the claim small: PdY.
-/
import Derived.Test.YtahhecendjfenaaMd36
import Derived.Test.YtahhecendjfenaaMuA
/-
  proto's law: command and reply, where both differ: false. (printed by pr_unlike2.py)
-/
namespace Go.Proofs.Ytahhecendjfenaa
open Go.RowKit
set_option linter.unusedVariables false
set_option linter.unusedSimpArgs false
theorem strOf_ne {a b : List Nat} (ha : ∀ x ∈ a, x < 256) (hb : ∀ x ∈ b, x < 256) (h : ¬ a = b) : ((strOf a).toList == (strOf b).toList) = false ∧ ¬ strOf a = strOf b := by
  have ne12 : ¬ strOf a = strOf b := fun e => h (strOf_inj4 ha hb e)
  refine ⟨?_, ne12⟩
  obtain ⟨s1, hs1⟩ : ∃ s, strOf a = s := ⟨_, rfl⟩
  obtain ⟨s2, hs2⟩ : ∃ s, strOf b = s := ⟨_, rfl⟩
  rw [hs1, hs2] at ne12 ⊢
  rw [beq_eq_false_iff_ne]
  intro e
  rw [ByteArray.toList_eq, ByteArray.toList_eq] at e
  exact ne12 (by cases s1; cases s2; congr 1; exact Array.toList_inj.1 e)
set_option maxHeartbeats 8000000 in
set_option maxRecDepth 8000 in
theorem commandUnlike_any (w : World) (a b : KC) (hl : ¬ a.like b) (ha : a.at_ w) (hb : b.at_ w) (hwa : a.wf) (hwb : b.wf) :
    Calls Try.prog 21 #[.agg #[.int .i64 a.id, .int .i64 a.kind, .string (strOf a.name), .int .i64 a.to_, .int .u64 (a.co : Int), .int .i64 a.item, .int .i64 a.num, .int .i64 a.of_, .int .i64 a.e.acc, .int .i64 a.e.item, .int .u64 (a.e.co : Int), .int .u64 (a.e.pr : Int), .slice a.e.A a.e.n a.e.c, .int .i64 a.k.num, .int .i64 a.k.kind, .int .i64 a.k.by_, .int .i64 a.k.dl, .int .i64 a.k.to_, .int .i64 a.k.want, .int .u64 (a.k.pr : Int), .int .u64 (a.k.rs : Int), .int .u64 (a.k.st : Int), .int .i64 a.k.of_, .slice a.k.A a.k.n a.k.c], .agg #[.int .i64 b.id, .int .i64 b.kind, .string (strOf b.name), .int .i64 b.to_, .int .u64 (b.co : Int), .int .i64 b.item, .int .i64 b.num, .int .i64 b.of_, .int .i64 b.e.acc, .int .i64 b.e.item, .int .u64 (b.e.co : Int), .int .u64 (b.e.pr : Int), .slice b.e.A b.e.n b.e.c, .int .i64 b.k.num, .int .i64 b.k.kind, .int .i64 b.k.by_, .int .i64 b.k.dl, .int .i64 b.k.to_, .int .i64 b.k.want, .int .u64 (b.k.pr : Int), .int .u64 (b.k.rs : Int), .int .u64 (b.k.st : Int), .int .i64 b.k.of_, .slice b.k.A b.k.n b.k.c]] w fun e w' => e = .returned (.bool false) ∧ Fr (fun _ => False) w w' := by
  have E1 := hide ha.e
  have E2 := hide hb.e
  have K1 := hide ha.k
  have K2 := hide hb.k
  have N1 := hide hwa.name
  have N2 := hide hwb.name
  obtain ⟨rid, kind, name, to_, co, item, num, of_, e, k⟩ := a
  obtain ⟨rid', kind', name', to_', co', item', num', of_', e', k'⟩ := b
  have HL : Hid (¬ (rid = rid' ∧ kind = kind' ∧ name = name' ∧ to_ = to_' ∧ co = co' ∧ item = item' ∧ num = num' ∧ of_ = of_' ∧ e.like e' ∧ k.like k')) := fun ⟨q0, q1, q2, q3, q4, q5, q6, q7, q8, q9⟩ => hl ⟨q0, q1, q2, q3, q4, q5, q6, q7, q8, q9⟩
  simp only at E1 E2 K1 K2 N1 N2 ⊢
  have HET : Hid (e.like e' → ∀ w1, Fr (fun _ => False) w w1 → Calls Try.prog 53 #[.agg #[.int .i64 e.acc, .int .i64 e.item, .int .u64 (e.co : Int), .int .u64 (e.pr : Int), .slice e.A e.n e.c], .agg #[.int .i64 e'.acc, .int .i64 e'.item, .int .u64 (e'.co : Int), .int .u64 (e'.pr : Int), .slice e'.A e'.n e'.c]] w1 fun e w' => e = .returned (.bool true) ∧ Fr (fun _ => False) w1 w') := fun h w1 hf => entryLike_any w1 e e' h (E1.out.quiet hf) (E2.out.quiet hf)
  have HEF : Hid (¬ e.like e' → ∀ w1, Fr (fun _ => False) w w1 → Calls Try.prog 53 #[.agg #[.int .i64 e.acc, .int .i64 e.item, .int .u64 (e.co : Int), .int .u64 (e.pr : Int), .slice e.A e.n e.c], .agg #[.int .i64 e'.acc, .int .i64 e'.item, .int .u64 (e'.co : Int), .int .u64 (e'.pr : Int), .slice e'.A e'.n e'.c]] w1 fun e w' => e = .returned (.bool false) ∧ Fr (fun _ => False) w1 w') := fun h w1 hf => entryUnlike_any w1 e e' h (E1.out.quiet hf) (E2.out.quiet hf)
  have HCF : Hid (¬ k.like k' → ∀ w1, Fr (fun _ => False) w w1 → Calls Try.prog 48 #[.agg #[.int .i64 k.num, .int .i64 k.kind, .int .i64 k.by_, .int .i64 k.dl, .int .i64 k.to_, .int .i64 k.want, .int .u64 (k.pr : Int), .int .u64 (k.rs : Int), .int .u64 (k.st : Int), .int .i64 k.of_, .slice k.A k.n k.c], .agg #[.int .i64 k'.num, .int .i64 k'.kind, .int .i64 k'.by_, .int .i64 k'.dl, .int .i64 k'.to_, .int .i64 k'.want, .int .u64 (k'.pr : Int), .int .u64 (k'.rs : Int), .int .u64 (k'.st : Int), .int .i64 k'.of_, .slice k'.A k'.n k'.c]] w1 fun e w' => e = .returned (.bool false) ∧ Fr (fun _ => False) w1 w') := fun h w1 hf => contractUnlike_any w1 k k' h (K1.out.quiet hf) (K2.out.quiet hf)
  clear E1 E2 K1 K2 ha hb hl hwa hwb
  by_cases h0 : rid = rid'
  · subst h0
    by_cases h0 : kind = kind'
    · subst h0
      by_cases h0 : name = name'
      · subst h0
        by_cases h0 : to_ = to_'
        · subst h0
          by_cases h0 : co = co'
          · subst h0
            by_cases h0 : item = item'
            · subst h0
              by_cases h0 : num = num'
              · subst h0
                by_cases h0 : of_ = of_'
                · subst h0
                  clear N1 N2
                  obtain ⟨str, hstr⟩ : ∃ str, strOf name = str := ⟨_, rfl⟩
                  rw [hstr]
                  clear hstr
                  by_cases he : e.like e'
                  · have HE := hide (HET.out he)
                    have HC := hide (HCF.out fun hk => HL.out ⟨rfl, rfl, rfl, rfl, rfl, rfl, rfl, rfl, he, hk⟩)
                    clear HET HEF HCF HL he
                    obtain ⟨acc, ei, ec, ep, E, en, ecp, ews⟩ := e
                    obtain ⟨acc', ei', ec', ep', E', en', ecp', ews'⟩ := e'
                    obtain ⟨knum, kkind, kby, kdl, kto, kwant, kpr, krs, kst, kof, X, xn, xc, kes⟩ := k
                    obtain ⟨knum', kkind', kby', kdl', kto', kwant', kpr', krs', kst', kof', X', xn', xc', kes'⟩ := k'
                    simp only at HE HC ⊢
                    have HB0 : Hid (Bl ((w.alloc (.cells #[.int .i64 rid, .int .i64 kind, .string str, .int .i64 to_, .int .u64 (co : Int), .int .i64 item, .int .i64 num, .int .i64 of_, .int .i64 acc, .int .i64 ei, .int .u64 (ec : Int), .int .u64 (ep : Int), .slice E en ecp, .int .i64 knum, .int .i64 kkind, .int .i64 kby, .int .i64 kdl, .int .i64 kto, .int .i64 kwant, .int .u64 (kpr : Int), .int .u64 (krs : Int), .int .u64 (kst : Int), .int .i64 kof, .slice X xn xc] 47)).alloc (.cells #[.int .i64 rid, .int .i64 kind, .string str, .int .i64 to_, .int .u64 (co : Int), .int .i64 item, .int .i64 num, .int .i64 of_, .int .i64 acc', .int .i64 ei', .int .u64 (ec' : Int), .int .u64 (ep' : Int), .slice E' en' ecp', .int .i64 knum', .int .i64 kkind', .int .i64 kby', .int .i64 kdl', .int .i64 kto', .int .i64 kwant', .int .u64 (kpr' : Int), .int .u64 (krs' : Int), .int .u64 (kst' : Int), .int .i64 kof', .slice X' xn' xc'] 47)) w.heap.size 47 #[.int .i64 rid, .int .i64 kind, .string str, .int .i64 to_, .int .u64 (co : Int), .int .i64 item, .int .i64 num, .int .i64 of_, .int .i64 acc, .int .i64 ei, .int .u64 (ec : Int), .int .u64 (ep : Int), .slice E en ecp, .int .i64 knum, .int .i64 kkind, .int .i64 kby, .int .i64 kdl, .int .i64 kto, .int .i64 kwant, .int .u64 (kpr : Int), .int .u64 (krs : Int), .int .u64 (kst : Int), .int .i64 kof, .slice X xn xc]) := (Bl.new _ _ _).alloc _
                    have HB1 : Hid (Bl ((w.alloc (.cells #[.int .i64 rid, .int .i64 kind, .string str, .int .i64 to_, .int .u64 (co : Int), .int .i64 item, .int .i64 num, .int .i64 of_, .int .i64 acc, .int .i64 ei, .int .u64 (ec : Int), .int .u64 (ep : Int), .slice E en ecp, .int .i64 knum, .int .i64 kkind, .int .i64 kby, .int .i64 kdl, .int .i64 kto, .int .i64 kwant, .int .u64 (kpr : Int), .int .u64 (krs : Int), .int .u64 (kst : Int), .int .i64 kof, .slice X xn xc] 47)).alloc (.cells #[.int .i64 rid, .int .i64 kind, .string str, .int .i64 to_, .int .u64 (co : Int), .int .i64 item, .int .i64 num, .int .i64 of_, .int .i64 acc', .int .i64 ei', .int .u64 (ec' : Int), .int .u64 (ep' : Int), .slice E' en' ecp', .int .i64 knum', .int .i64 kkind', .int .i64 kby', .int .i64 kdl', .int .i64 kto', .int .i64 kwant', .int .u64 (kpr' : Int), .int .u64 (krs' : Int), .int .u64 (kst' : Int), .int .i64 kof', .slice X' xn' xc'] 47)) (w.heap.size + 1) 47 #[.int .i64 rid, .int .i64 kind, .string str, .int .i64 to_, .int .u64 (co : Int), .int .i64 item, .int .i64 num, .int .i64 of_, .int .i64 acc', .int .i64 ei', .int .u64 (ec' : Int), .int .u64 (ep' : Int), .slice E' en' ecp', .int .i64 knum', .int .i64 kkind', .int .i64 kby', .int .i64 kdl', .int .i64 kto', .int .i64 kwant', .int .u64 (kpr' : Int), .int .u64 (krs' : Int), .int .u64 (kst' : Int), .int .i64 kof', .slice X' xn' xc']) := Bl.newAt (by simp)
                    go_enter Try.func21, Try.ntmps21
                    go_wp2_with fail
                    refine (HE.out _ (by (repeat (first | with_reducible exact Fr.refl _ _ | with_reducible assumption | with_reducible refine Fr.drew ?_ | with_reducible refine Fr.drewN ?_ _ | with_reducible refine Fr.alloc ?_ _ | with_reducible refine Fr.setIn ?_ (by first | exact Or.inl rfl | exact Or.inr (by simp; done) | exact Or.inr (by simp; omega) | exact Or.inr (by omega)) _)))).mono ?_
                    rintro x w1 ⟨rfl, hf⟩
                    have HF : Hid (Fr (fun _ => False) w w1) := Fr.trans (by (repeat (first | with_reducible exact Fr.refl _ _ | with_reducible assumption | with_reducible refine Fr.drew ?_ | with_reducible refine Fr.drewN ?_ _ | with_reducible refine Fr.alloc ?_ _ | with_reducible refine Fr.setIn ?_ (by first | exact Or.inl rfl | exact Or.inr (by simp; done) | exact Or.inr (by simp; omega) | exact Or.inr (by omega)) _))) hf
                    have e0 := HB0.out.fr hf (fun x => x)
                    have e1 := HB1.out.fr hf (fun x => x)
                    unfold Bl at e0 e1
                    clear hf HB0 HB1
                    go_wp2_with (first
                      | (refine wpList_load_at rfl 28 _ rfl w.heap.size 13 rfl 47 _ #[.int .i64 knum, .int .i64 kkind, .int .i64 kby, .int .i64 kdl, .int .i64 kto, .int .i64 kwant, .int .u64 (kpr : Int), .int .u64 (krs : Int), .int .u64 (kst : Int), .int .i64 kof, .slice X xn xc] (0, 0) _ e0 Try.underlying28 rfl (by kernel_rfl) rfl ?_)
                      | (refine wpList_load_at rfl 28 _ rfl (w.heap.size + 1) 13 rfl 47 _ #[.int .i64 knum', .int .i64 kkind', .int .i64 kby', .int .i64 kdl', .int .i64 kto', .int .i64 kwant', .int .u64 (kpr' : Int), .int .u64 (krs' : Int), .int .u64 (kst' : Int), .int .i64 kof', .slice X' xn' xc'] (0, 0) _ e1 Try.underlying28 rfl (by kernel_rfl) rfl ?_))
                    clear e0 e1
                    refine (HC.out _ HF.out).mono ?_
                    rintro x w2 ⟨rfl, hf⟩
                    have HF2 := hide (HF.out.trans hf)
                    clear hf
                    go_wp2_with fail
                    go_ret
                    exact ⟨rfl, HF2.out⟩
                  · have HE := hide (HEF.out he)
                    clear HET HEF HCF HL he
                    obtain ⟨acc, ei, ec, ep, E, en, ecp, ews⟩ := e
                    obtain ⟨acc', ei', ec', ep', E', en', ecp', ews'⟩ := e'
                    obtain ⟨knum, kkind, kby, kdl, kto, kwant, kpr, krs, kst, kof, X, xn, xc, kes⟩ := k
                    obtain ⟨knum', kkind', kby', kdl', kto', kwant', kpr', krs', kst', kof', X', xn', xc', kes'⟩ := k'
                    simp only at HE ⊢
                    go_enter Try.func21, Try.ntmps21
                    go_wp2_with fail
                    refine (HE.out _ (by (repeat (first | with_reducible exact Fr.refl _ _ | with_reducible assumption | with_reducible refine Fr.drew ?_ | with_reducible refine Fr.drewN ?_ _ | with_reducible refine Fr.alloc ?_ _ | with_reducible refine Fr.setIn ?_ (by first | exact Or.inl rfl | exact Or.inr (by simp; done) | exact Or.inr (by simp; omega) | exact Or.inr (by omega)) _)))).mono ?_
                    rintro x w1 ⟨rfl, hf⟩
                    have HF : Hid (Fr (fun _ => False) w w1) := Fr.trans (by (repeat (first | with_reducible exact Fr.refl _ _ | with_reducible assumption | with_reducible refine Fr.drew ?_ | with_reducible refine Fr.drewN ?_ _ | with_reducible refine Fr.alloc ?_ _ | with_reducible refine Fr.setIn ?_ (by first | exact Or.inl rfl | exact Or.inr (by simp; done) | exact Or.inr (by simp; omega) | exact Or.inr (by omega)) _))) hf
                    clear hf
                    go_wp2_with fail
                    go_ret
                    exact ⟨rfl, HF.out⟩
                · have k1 : (of_ == of_') = false := by simp only [beq_eq_false_iff_ne]; omega
                  have k2 : ¬ (of_ : Int) = (of_' : Int) := by omega
                  obtain ⟨str, hstr⟩ : ∃ str, strOf name = str := ⟨_, rfl⟩
                  rw [hstr]
                  clear hstr
                  clear HL HET HEF HCF N1 N2
                  obtain ⟨acc, ei, ec, ep, E, en, ecp, ews⟩ := e
                  obtain ⟨acc', ei', ec', ep', E', en', ecp', ews'⟩ := e'
                  obtain ⟨knum, kkind, kby, kdl, kto, kwant, kpr, krs, kst, kof, X, xn, xc, kes⟩ := k
                  obtain ⟨knum', kkind', kby', kdl', kto', kwant', kpr', krs', kst', kof', X', xn', xc', kes'⟩ := k'
                  simp only
                  go_enter Try.func21, Try.ntmps21
                  go_wp2_with fail
                  go_ret
                  exact ⟨rfl, by (repeat (first | with_reducible exact Fr.refl _ _ | with_reducible assumption | with_reducible refine Fr.drew ?_ | with_reducible refine Fr.drewN ?_ _ | with_reducible refine Fr.alloc ?_ _ | with_reducible refine Fr.setIn ?_ (by first | exact Or.inl rfl | exact Or.inr (by simp; done) | exact Or.inr (by simp; omega) | exact Or.inr (by omega)) _))⟩
              · have k1 : (num == num') = false := by simp only [beq_eq_false_iff_ne]; omega
                have k2 : ¬ (num : Int) = (num' : Int) := by omega
                obtain ⟨str, hstr⟩ : ∃ str, strOf name = str := ⟨_, rfl⟩
                rw [hstr]
                clear hstr
                clear HL HET HEF HCF N1 N2
                obtain ⟨acc, ei, ec, ep, E, en, ecp, ews⟩ := e
                obtain ⟨acc', ei', ec', ep', E', en', ecp', ews'⟩ := e'
                obtain ⟨knum, kkind, kby, kdl, kto, kwant, kpr, krs, kst, kof, X, xn, xc, kes⟩ := k
                obtain ⟨knum', kkind', kby', kdl', kto', kwant', kpr', krs', kst', kof', X', xn', xc', kes'⟩ := k'
                simp only
                go_enter Try.func21, Try.ntmps21
                go_wp2_with fail
                go_ret
                exact ⟨rfl, by (repeat (first | with_reducible exact Fr.refl _ _ | with_reducible assumption | with_reducible refine Fr.drew ?_ | with_reducible refine Fr.drewN ?_ _ | with_reducible refine Fr.alloc ?_ _ | with_reducible refine Fr.setIn ?_ (by first | exact Or.inl rfl | exact Or.inr (by simp; done) | exact Or.inr (by simp; omega) | exact Or.inr (by omega)) _))⟩
            · have k1 : (item == item') = false := by simp only [beq_eq_false_iff_ne]; omega
              have k2 : ¬ (item : Int) = (item' : Int) := by omega
              obtain ⟨str, hstr⟩ : ∃ str, strOf name = str := ⟨_, rfl⟩
              rw [hstr]
              clear hstr
              clear HL HET HEF HCF N1 N2
              obtain ⟨acc, ei, ec, ep, E, en, ecp, ews⟩ := e
              obtain ⟨acc', ei', ec', ep', E', en', ecp', ews'⟩ := e'
              obtain ⟨knum, kkind, kby, kdl, kto, kwant, kpr, krs, kst, kof, X, xn, xc, kes⟩ := k
              obtain ⟨knum', kkind', kby', kdl', kto', kwant', kpr', krs', kst', kof', X', xn', xc', kes'⟩ := k'
              simp only
              go_enter Try.func21, Try.ntmps21
              go_wp2_with fail
              go_ret
              exact ⟨rfl, by (repeat (first | with_reducible exact Fr.refl _ _ | with_reducible assumption | with_reducible refine Fr.drew ?_ | with_reducible refine Fr.drewN ?_ _ | with_reducible refine Fr.alloc ?_ _ | with_reducible refine Fr.setIn ?_ (by first | exact Or.inl rfl | exact Or.inr (by simp; done) | exact Or.inr (by simp; omega) | exact Or.inr (by omega)) _))⟩
          · have k1 : ((co : Int) == (co' : Int)) = false := by simp only [beq_eq_false_iff_ne]; omega
            have k2 : ¬ (co : Int) = (co' : Int) := by omega
            obtain ⟨str, hstr⟩ : ∃ str, strOf name = str := ⟨_, rfl⟩
            rw [hstr]
            clear hstr
            clear HL HET HEF HCF N1 N2
            obtain ⟨acc, ei, ec, ep, E, en, ecp, ews⟩ := e
            obtain ⟨acc', ei', ec', ep', E', en', ecp', ews'⟩ := e'
            obtain ⟨knum, kkind, kby, kdl, kto, kwant, kpr, krs, kst, kof, X, xn, xc, kes⟩ := k
            obtain ⟨knum', kkind', kby', kdl', kto', kwant', kpr', krs', kst', kof', X', xn', xc', kes'⟩ := k'
            simp only
            go_enter Try.func21, Try.ntmps21
            go_wp2_with fail
            go_ret
            exact ⟨rfl, by (repeat (first | with_reducible exact Fr.refl _ _ | with_reducible assumption | with_reducible refine Fr.drew ?_ | with_reducible refine Fr.drewN ?_ _ | with_reducible refine Fr.alloc ?_ _ | with_reducible refine Fr.setIn ?_ (by first | exact Or.inl rfl | exact Or.inr (by simp; done) | exact Or.inr (by simp; omega) | exact Or.inr (by omega)) _))⟩
        · have k1 : (to_ == to_') = false := by simp only [beq_eq_false_iff_ne]; omega
          have k2 : ¬ (to_ : Int) = (to_' : Int) := by omega
          obtain ⟨str, hstr⟩ : ∃ str, strOf name = str := ⟨_, rfl⟩
          rw [hstr]
          clear hstr
          clear HL HET HEF HCF N1 N2
          obtain ⟨acc, ei, ec, ep, E, en, ecp, ews⟩ := e
          obtain ⟨acc', ei', ec', ep', E', en', ecp', ews'⟩ := e'
          obtain ⟨knum, kkind, kby, kdl, kto, kwant, kpr, krs, kst, kof, X, xn, xc, kes⟩ := k
          obtain ⟨knum', kkind', kby', kdl', kto', kwant', kpr', krs', kst', kof', X', xn', xc', kes'⟩ := k'
          simp only
          go_enter Try.func21, Try.ntmps21
          go_wp2_with fail
          go_ret
          exact ⟨rfl, by (repeat (first | with_reducible exact Fr.refl _ _ | with_reducible assumption | with_reducible refine Fr.drew ?_ | with_reducible refine Fr.drewN ?_ _ | with_reducible refine Fr.alloc ?_ _ | with_reducible refine Fr.setIn ?_ (by first | exact Or.inl rfl | exact Or.inr (by simp; done) | exact Or.inr (by simp; omega) | exact Or.inr (by omega)) _))⟩
      · obtain ⟨k1, k2⟩ := strOf_ne N1.out N2.out h0
        obtain ⟨str, hstr⟩ : ∃ str, strOf name = str := ⟨_, rfl⟩
        rw [hstr]
        obtain ⟨str', hstr'⟩ : ∃ str, strOf name' = str := ⟨_, rfl⟩
        rw [hstr']
        rw [hstr, hstr'] at k1 k2
        clear hstr hstr'
        clear HL HET HEF HCF N1 N2
        obtain ⟨acc, ei, ec, ep, E, en, ecp, ews⟩ := e
        obtain ⟨acc', ei', ec', ep', E', en', ecp', ews'⟩ := e'
        obtain ⟨knum, kkind, kby, kdl, kto, kwant, kpr, krs, kst, kof, X, xn, xc, kes⟩ := k
        obtain ⟨knum', kkind', kby', kdl', kto', kwant', kpr', krs', kst', kof', X', xn', xc', kes'⟩ := k'
        simp only
        go_enter Try.func21, Try.ntmps21
        go_wp2_with fail
        go_ret
        exact ⟨rfl, by (repeat (first | with_reducible exact Fr.refl _ _ | with_reducible assumption | with_reducible refine Fr.drew ?_ | with_reducible refine Fr.drewN ?_ _ | with_reducible refine Fr.alloc ?_ _ | with_reducible refine Fr.setIn ?_ (by first | exact Or.inl rfl | exact Or.inr (by simp; done) | exact Or.inr (by simp; omega) | exact Or.inr (by omega)) _))⟩
    · have k1 : (kind == kind') = false := by simp only [beq_eq_false_iff_ne]; omega
      have k2 : ¬ (kind : Int) = (kind' : Int) := by omega
      obtain ⟨str, hstr⟩ : ∃ str, strOf name = str := ⟨_, rfl⟩
      rw [hstr]
      obtain ⟨str', hstr'⟩ : ∃ str, strOf name' = str := ⟨_, rfl⟩
      rw [hstr']
      clear hstr hstr'
      clear HL HET HEF HCF N1 N2
      obtain ⟨acc, ei, ec, ep, E, en, ecp, ews⟩ := e
      obtain ⟨acc', ei', ec', ep', E', en', ecp', ews'⟩ := e'
      obtain ⟨knum, kkind, kby, kdl, kto, kwant, kpr, krs, kst, kof, X, xn, xc, kes⟩ := k
      obtain ⟨knum', kkind', kby', kdl', kto', kwant', kpr', krs', kst', kof', X', xn', xc', kes'⟩ := k'
      simp only
      go_enter Try.func21, Try.ntmps21
      go_wp2_with fail
      go_ret
      exact ⟨rfl, by (repeat (first | with_reducible exact Fr.refl _ _ | with_reducible assumption | with_reducible refine Fr.drew ?_ | with_reducible refine Fr.drewN ?_ _ | with_reducible refine Fr.alloc ?_ _ | with_reducible refine Fr.setIn ?_ (by first | exact Or.inl rfl | exact Or.inr (by simp; done) | exact Or.inr (by simp; omega) | exact Or.inr (by omega)) _))⟩
  · have k1 : (rid == rid') = false := by simp only [beq_eq_false_iff_ne]; omega
    have k2 : ¬ (rid : Int) = (rid' : Int) := by omega
    obtain ⟨str, hstr⟩ : ∃ str, strOf name = str := ⟨_, rfl⟩
    rw [hstr]
    obtain ⟨str', hstr'⟩ : ∃ str, strOf name' = str := ⟨_, rfl⟩
    rw [hstr']
    clear hstr hstr'
    clear HL HET HEF HCF N1 N2
    obtain ⟨acc, ei, ec, ep, E, en, ecp, ews⟩ := e
    obtain ⟨acc', ei', ec', ep', E', en', ecp', ews'⟩ := e'
    obtain ⟨knum, kkind, kby, kdl, kto, kwant, kpr, krs, kst, kof, X, xn, xc, kes⟩ := k
    obtain ⟨knum', kkind', kby', kdl', kto', kwant', kpr', krs', kst', kof', X', xn', xc', kes'⟩ := k'
    simp only
    go_enter Try.func21, Try.ntmps21
    go_wp2_with fail
    go_ret
    exact ⟨rfl, by (repeat (first | with_reducible exact Fr.refl _ _ | with_reducible assumption | with_reducible refine Fr.drew ?_ | with_reducible refine Fr.drewN ?_ _ | with_reducible refine Fr.alloc ?_ _ | with_reducible refine Fr.setIn ?_ (by first | exact Or.inl rfl | exact Or.inr (by simp; done) | exact Or.inr (by simp; omega) | exact Or.inr (by omega)) _))⟩
set_option maxHeartbeats 8000000 in
set_option maxRecDepth 8000 in
theorem replyUnlike_any (w : World) (a b : RR) (hl : ¬ a.like b) (ha : a.at_ w) (hb : b.at_ w) (hwa : a.wf) (hwb : b.wf) :
    Calls Try.prog 15 #[.agg #[.int .i64 a.id, .int .i64 a.err, .int .i64 a.num, .int .u64 (a.co : Int), .slice a.A a.n a.c, .string (strOf a.txt), .int .u32 (a.bits : Int), .int .i64 a.k.num, .int .i64 a.k.kind, .int .i64 a.k.by_, .int .i64 a.k.dl, .int .i64 a.k.to_, .int .i64 a.k.want, .int .u64 (a.k.pr : Int), .int .u64 (a.k.rs : Int), .int .u64 (a.k.st : Int), .int .i64 a.k.of_, .slice a.k.A a.k.n a.k.c], .agg #[.int .i64 b.id, .int .i64 b.err, .int .i64 b.num, .int .u64 (b.co : Int), .slice b.A b.n b.c, .string (strOf b.txt), .int .u32 (b.bits : Int), .int .i64 b.k.num, .int .i64 b.k.kind, .int .i64 b.k.by_, .int .i64 b.k.dl, .int .i64 b.k.to_, .int .i64 b.k.want, .int .u64 (b.k.pr : Int), .int .u64 (b.k.rs : Int), .int .u64 (b.k.st : Int), .int .i64 b.k.of_, .slice b.k.A b.k.n b.k.c]] w fun e w' => e = .returned (.bool false) ∧ Fr (fun _ => False) w w' := by
  have e1 := ha.sl.ilen
  have e2 := hb.sl.ilen
  have hle := ha.le
  have S1 := hide ha.sl
  have S2 := hide hb.sl
  have K1 := hide ha.k
  have K2 := hide hb.k
  have N1 := hide hwa.txt
  have N2 := hide hwb.txt
  obtain ⟨id, err, num, co, A, n, c, items, txt, bits, k⟩ := a
  obtain ⟨id', err', num', co', A', n', c', items', txt', bits', k'⟩ := b
  have HL : Hid (¬ (id = id' ∧ err = err' ∧ num = num' ∧ co = co' ∧ items = items' ∧ txt = txt' ∧ bits = bits' ∧ k.like k')) := fun ⟨q0, q1, q2, q3, q4, q5, q6, q7⟩ => hl ⟨q0, q1, q2, q3, q4, q5, q6, q7⟩
  simp only at e1 e2 hle S1 S2 K1 K2 N1 N2 ⊢
  have HIT : Hid (items = items' → ∀ w1, Fr (fun _ => False) w w1 → Calls Try.prog 47 #[.slice A n c, .slice A' n' c'] w1 fun e w' => e = .returned (.bool true) ∧ ∃ m, w' = w1.drewN m) := fun h w1 hf => by
    subst h
    obtain rfl : n = n' := e1.trans e2.symm
    exact ints_q w1 items A A' c c' n e1 (by omega) (S1.out.quiet hf) (S2.out.quiet hf)
  have HIF : Hid (¬ items = items' → ∀ w1, Fr (fun _ => False) w w1 → Calls Try.prog 47 #[.slice A n c, .slice A' n' c'] w1 fun e w' => e = .returned (.bool false) ∧ ∃ m, w' = w1.drewN m) := fun h w1 hf => ints_ne w1 items items' A A' c c' n n' e1 e2 (by omega) (S1.out.quiet hf) (S2.out.quiet hf) h
  have HCF : Hid (¬ k.like k' → ∀ w1, Fr (fun _ => False) w w1 → Calls Try.prog 48 #[.agg #[.int .i64 k.num, .int .i64 k.kind, .int .i64 k.by_, .int .i64 k.dl, .int .i64 k.to_, .int .i64 k.want, .int .u64 (k.pr : Int), .int .u64 (k.rs : Int), .int .u64 (k.st : Int), .int .i64 k.of_, .slice k.A k.n k.c], .agg #[.int .i64 k'.num, .int .i64 k'.kind, .int .i64 k'.by_, .int .i64 k'.dl, .int .i64 k'.to_, .int .i64 k'.want, .int .u64 (k'.pr : Int), .int .u64 (k'.rs : Int), .int .u64 (k'.st : Int), .int .i64 k'.of_, .slice k'.A k'.n k'.c]] w1 fun e w' => e = .returned (.bool false) ∧ Fr (fun _ => False) w1 w') := fun h w1 hf => contractUnlike_any w1 k k' h (K1.out.quiet hf) (K2.out.quiet hf)
  clear e1 e2 hle S1 S2 K1 K2 ha hb hl hwa hwb
  by_cases h0 : id = id'
  · subst h0
    by_cases h0 : err = err'
    · subst h0
      by_cases h0 : num = num'
      · subst h0
        by_cases h0 : co = co'
        · subst h0
          by_cases h0 : items = items'
          · subst h0
            by_cases h0 : txt = txt'
            · subst h0
              by_cases h0 : bits = bits'
              · subst h0
                have HI := hide (HIT.out rfl)
                have HC := hide (HCF.out fun hk => HL.out ⟨rfl, rfl, rfl, rfl, rfl, rfl, rfl, hk⟩)
                obtain ⟨str, hstr⟩ : ∃ str, strOf txt = str := ⟨_, rfl⟩
                rw [hstr]
                clear hstr
                clear HL HIT HIF HCF N1 N2
                obtain ⟨num2, kind2, by2, dl2, to2, want2, pr2, rs2, st2, of2, X2, n2, c2, es2⟩ := k
                obtain ⟨num3, kind3, by3, dl3, to3, want3, pr3, rs3, st3, of3, X3, n3, c3, es3⟩ := k'
                simp only at HC ⊢
                go_enter Try.func15, Try.ntmps15
                go_wp2_with fail
                refine (HI.out _ (by (repeat (first | with_reducible exact Fr.refl _ _ | with_reducible assumption | with_reducible refine Fr.drew ?_ | with_reducible refine Fr.drewN ?_ _ | with_reducible refine Fr.alloc ?_ _ | with_reducible refine Fr.setIn ?_ (by first | exact Or.inl rfl | exact Or.inr (by simp; done) | exact Or.inr (by simp; omega) | exact Or.inr (by omega)) _)))).mono ?_
                rintro e w1 ⟨rfl, m, rfl⟩
                go_wp2_with fail
                refine (HC.out _ (by (repeat (first | with_reducible exact Fr.refl _ _ | with_reducible assumption | with_reducible refine Fr.drew ?_ | with_reducible refine Fr.drewN ?_ _ | with_reducible refine Fr.alloc ?_ _ | with_reducible refine Fr.setIn ?_ (by first | exact Or.inl rfl | exact Or.inr (by simp; done) | exact Or.inr (by simp; omega) | exact Or.inr (by omega)) _)))).mono ?_
                rintro e w1 ⟨rfl, hf⟩
                have HF : Hid (Fr (fun _ => False) w w1) := Fr.trans (by (repeat (first | with_reducible exact Fr.refl _ _ | with_reducible assumption | with_reducible refine Fr.drew ?_ | with_reducible refine Fr.drewN ?_ _ | with_reducible refine Fr.alloc ?_ _ | with_reducible refine Fr.setIn ?_ (by first | exact Or.inl rfl | exact Or.inr (by simp; done) | exact Or.inr (by simp; omega) | exact Or.inr (by omega)) _))) hf
                clear hf
                go_wp2_with fail
                go_ret
                exact ⟨rfl, HF.out⟩
              · have k1 : ((bits : Int) == (bits' : Int)) = false := by simp only [beq_eq_false_iff_ne]; omega
                have k2 : ¬ (bits : Int) = (bits' : Int) := by omega
                have HI := hide (HIT.out rfl)
                obtain ⟨str, hstr⟩ : ∃ str, strOf txt = str := ⟨_, rfl⟩
                rw [hstr]
                clear hstr
                clear HL HIT HIF HCF N1 N2
                obtain ⟨num2, kind2, by2, dl2, to2, want2, pr2, rs2, st2, of2, X2, n2, c2, es2⟩ := k
                obtain ⟨num3, kind3, by3, dl3, to3, want3, pr3, rs3, st3, of3, X3, n3, c3, es3⟩ := k'
                simp only
                go_enter Try.func15, Try.ntmps15
                go_wp2_with fail
                refine (HI.out _ (by (repeat (first | with_reducible exact Fr.refl _ _ | with_reducible assumption | with_reducible refine Fr.drew ?_ | with_reducible refine Fr.drewN ?_ _ | with_reducible refine Fr.alloc ?_ _ | with_reducible refine Fr.setIn ?_ (by first | exact Or.inl rfl | exact Or.inr (by simp; done) | exact Or.inr (by simp; omega) | exact Or.inr (by omega)) _)))).mono ?_
                rintro e w1 ⟨rfl, m, rfl⟩
                go_wp2_with fail
                go_ret
                exact ⟨rfl, by (repeat (first | with_reducible exact Fr.refl _ _ | with_reducible assumption | with_reducible refine Fr.drew ?_ | with_reducible refine Fr.drewN ?_ _ | with_reducible refine Fr.alloc ?_ _ | with_reducible refine Fr.setIn ?_ (by first | exact Or.inl rfl | exact Or.inr (by simp; done) | exact Or.inr (by simp; omega) | exact Or.inr (by omega)) _))⟩
            · have HI := hide (HIT.out rfl)
              obtain ⟨k1, k2⟩ := strOf_ne N1.out N2.out h0
              obtain ⟨str, hstr⟩ : ∃ str, strOf txt = str := ⟨_, rfl⟩
              rw [hstr]
              obtain ⟨str', hstr'⟩ : ∃ str, strOf txt' = str := ⟨_, rfl⟩
              rw [hstr']
              rw [hstr, hstr'] at k1 k2
              clear hstr hstr'
              clear HL HIT HIF HCF N1 N2
              obtain ⟨num2, kind2, by2, dl2, to2, want2, pr2, rs2, st2, of2, X2, n2, c2, es2⟩ := k
              obtain ⟨num3, kind3, by3, dl3, to3, want3, pr3, rs3, st3, of3, X3, n3, c3, es3⟩ := k'
              simp only
              go_enter Try.func15, Try.ntmps15
              go_wp2_with fail
              refine (HI.out _ (by (repeat (first | with_reducible exact Fr.refl _ _ | with_reducible assumption | with_reducible refine Fr.drew ?_ | with_reducible refine Fr.drewN ?_ _ | with_reducible refine Fr.alloc ?_ _ | with_reducible refine Fr.setIn ?_ (by first | exact Or.inl rfl | exact Or.inr (by simp; done) | exact Or.inr (by simp; omega) | exact Or.inr (by omega)) _)))).mono ?_
              rintro e w1 ⟨rfl, m, rfl⟩
              go_wp2_with fail
              go_ret
              exact ⟨rfl, by (repeat (first | with_reducible exact Fr.refl _ _ | with_reducible assumption | with_reducible refine Fr.drew ?_ | with_reducible refine Fr.drewN ?_ _ | with_reducible refine Fr.alloc ?_ _ | with_reducible refine Fr.setIn ?_ (by first | exact Or.inl rfl | exact Or.inr (by simp; done) | exact Or.inr (by simp; omega) | exact Or.inr (by omega)) _))⟩
          · have HI := hide (HIF.out h0)
            obtain ⟨str, hstr⟩ : ∃ str, strOf txt = str := ⟨_, rfl⟩
            rw [hstr]
            obtain ⟨str', hstr'⟩ : ∃ str, strOf txt' = str := ⟨_, rfl⟩
            rw [hstr']
            clear hstr hstr'
            clear HL HIT HIF HCF N1 N2
            obtain ⟨num2, kind2, by2, dl2, to2, want2, pr2, rs2, st2, of2, X2, n2, c2, es2⟩ := k
            obtain ⟨num3, kind3, by3, dl3, to3, want3, pr3, rs3, st3, of3, X3, n3, c3, es3⟩ := k'
            simp only
            go_enter Try.func15, Try.ntmps15
            go_wp2_with fail
            refine (HI.out _ (by (repeat (first | with_reducible exact Fr.refl _ _ | with_reducible assumption | with_reducible refine Fr.drew ?_ | with_reducible refine Fr.drewN ?_ _ | with_reducible refine Fr.alloc ?_ _ | with_reducible refine Fr.setIn ?_ (by first | exact Or.inl rfl | exact Or.inr (by simp; done) | exact Or.inr (by simp; omega) | exact Or.inr (by omega)) _)))).mono ?_
            rintro e w1 ⟨rfl, m, rfl⟩
            go_wp2_with fail
            go_ret
            exact ⟨rfl, by (repeat (first | with_reducible exact Fr.refl _ _ | with_reducible assumption | with_reducible refine Fr.drew ?_ | with_reducible refine Fr.drewN ?_ _ | with_reducible refine Fr.alloc ?_ _ | with_reducible refine Fr.setIn ?_ (by first | exact Or.inl rfl | exact Or.inr (by simp; done) | exact Or.inr (by simp; omega) | exact Or.inr (by omega)) _))⟩
        · have k1 : ((co : Int) == (co' : Int)) = false := by simp only [beq_eq_false_iff_ne]; omega
          have k2 : ¬ (co : Int) = (co' : Int) := by omega
          obtain ⟨str, hstr⟩ : ∃ str, strOf txt = str := ⟨_, rfl⟩
          rw [hstr]
          obtain ⟨str', hstr'⟩ : ∃ str, strOf txt' = str := ⟨_, rfl⟩
          rw [hstr']
          clear hstr hstr'
          clear HL HIT HIF HCF N1 N2
          obtain ⟨num2, kind2, by2, dl2, to2, want2, pr2, rs2, st2, of2, X2, n2, c2, es2⟩ := k
          obtain ⟨num3, kind3, by3, dl3, to3, want3, pr3, rs3, st3, of3, X3, n3, c3, es3⟩ := k'
          simp only
          go_enter Try.func15, Try.ntmps15
          go_wp2_with fail
          go_ret
          exact ⟨rfl, by (repeat (first | with_reducible exact Fr.refl _ _ | with_reducible assumption | with_reducible refine Fr.drew ?_ | with_reducible refine Fr.drewN ?_ _ | with_reducible refine Fr.alloc ?_ _ | with_reducible refine Fr.setIn ?_ (by first | exact Or.inl rfl | exact Or.inr (by simp; done) | exact Or.inr (by simp; omega) | exact Or.inr (by omega)) _))⟩
      · have k1 : (num == num') = false := by simp only [beq_eq_false_iff_ne]; omega
        have k2 : ¬ (num : Int) = (num' : Int) := by omega
        obtain ⟨str, hstr⟩ : ∃ str, strOf txt = str := ⟨_, rfl⟩
        rw [hstr]
        obtain ⟨str', hstr'⟩ : ∃ str, strOf txt' = str := ⟨_, rfl⟩
        rw [hstr']
        clear hstr hstr'
        clear HL HIT HIF HCF N1 N2
        obtain ⟨num2, kind2, by2, dl2, to2, want2, pr2, rs2, st2, of2, X2, n2, c2, es2⟩ := k
        obtain ⟨num3, kind3, by3, dl3, to3, want3, pr3, rs3, st3, of3, X3, n3, c3, es3⟩ := k'
        simp only
        go_enter Try.func15, Try.ntmps15
        go_wp2_with fail
        go_ret
        exact ⟨rfl, by (repeat (first | with_reducible exact Fr.refl _ _ | with_reducible assumption | with_reducible refine Fr.drew ?_ | with_reducible refine Fr.drewN ?_ _ | with_reducible refine Fr.alloc ?_ _ | with_reducible refine Fr.setIn ?_ (by first | exact Or.inl rfl | exact Or.inr (by simp; done) | exact Or.inr (by simp; omega) | exact Or.inr (by omega)) _))⟩
    · have k1 : (err == err') = false := by simp only [beq_eq_false_iff_ne]; omega
      have k2 : ¬ (err : Int) = (err' : Int) := by omega
      obtain ⟨str, hstr⟩ : ∃ str, strOf txt = str := ⟨_, rfl⟩
      rw [hstr]
      obtain ⟨str', hstr'⟩ : ∃ str, strOf txt' = str := ⟨_, rfl⟩
      rw [hstr']
      clear hstr hstr'
      clear HL HIT HIF HCF N1 N2
      obtain ⟨num2, kind2, by2, dl2, to2, want2, pr2, rs2, st2, of2, X2, n2, c2, es2⟩ := k
      obtain ⟨num3, kind3, by3, dl3, to3, want3, pr3, rs3, st3, of3, X3, n3, c3, es3⟩ := k'
      simp only
      go_enter Try.func15, Try.ntmps15
      go_wp2_with fail
      go_ret
      exact ⟨rfl, by (repeat (first | with_reducible exact Fr.refl _ _ | with_reducible assumption | with_reducible refine Fr.drew ?_ | with_reducible refine Fr.drewN ?_ _ | with_reducible refine Fr.alloc ?_ _ | with_reducible refine Fr.setIn ?_ (by first | exact Or.inl rfl | exact Or.inr (by simp; done) | exact Or.inr (by simp; omega) | exact Or.inr (by omega)) _))⟩
  · have k1 : (id == id') = false := by simp only [beq_eq_false_iff_ne]; omega
    have k2 : ¬ (id : Int) = (id' : Int) := by omega
    obtain ⟨str, hstr⟩ : ∃ str, strOf txt = str := ⟨_, rfl⟩
    rw [hstr]
    obtain ⟨str', hstr'⟩ : ∃ str, strOf txt' = str := ⟨_, rfl⟩
    rw [hstr']
    clear hstr hstr'
    clear HL HIT HIF HCF N1 N2
    obtain ⟨num2, kind2, by2, dl2, to2, want2, pr2, rs2, st2, of2, X2, n2, c2, es2⟩ := k
    obtain ⟨num3, kind3, by3, dl3, to3, want3, pr3, rs3, st3, of3, X3, n3, c3, es3⟩ := k'
    simp only
    go_enter Try.func15, Try.ntmps15
    go_wp2_with fail
    go_ret
    exact ⟨rfl, by (repeat (first | with_reducible exact Fr.refl _ _ | with_reducible assumption | with_reducible refine Fr.drew ?_ | with_reducible refine Fr.drewN ?_ _ | with_reducible refine Fr.alloc ?_ _ | with_reducible refine Fr.setIn ?_ (by first | exact Or.inl rfl | exact Or.inr (by simp; done) | exact Or.inr (by simp; omega) | exact Or.inr (by omega)) _))⟩
end Go.Proofs.Ytahhecendjfenaa
