/-
  Texts merged into one, to keep the claim small: PrI, PrN1.
-/
import Derived.Test.YtahhecendjfenaaMe26
import Derived.Test.YtahhecendjfenaaMe1
import Derived.Test.YtahhecendjfenaaMe23
section
/-
  proto's law: markedContract. (printed by pr_like.py)
-/
namespace Go.Proofs.Ytahhecendjfenaa
open Go.RowKit
set_option linter.unusedVariables false
set_option linter.unusedSimpArgs false
set_option maxHeartbeats 4000000 in
set_option maxRecDepth 8000 in
theorem markedContract_any {W : World} (w : World) (r : CR) (L : Option Addr) (cl : Nat) (rs : List ER) (g : Option Nat) (hle : r.n ≤ 2513169434843) (hrl : rs.length = r.n) (h : LEr W w r.es L (r.n + 2) cl rs g mk2) :
    Calls Try.prog 17 #[.agg #[.int .i64 r.num, .int .i64 r.kind, .int .i64 r.by_, .int .i64 r.dl, .int .i64 r.to_, .int .i64 r.want, .int .u64 (r.pr : Int), .int .u64 (r.rs : Int), .int .u64 (r.st : Int), .int .i64 r.of_, .slice L r.n cl]] w fun e w' => e = .returned (.bool true) ∧ Fr (fun _ => False) w w' := by
  have hcap := h.ow.cap
  obtain ⟨num, kind, by_, dl, to_, want, pr, rs', st, of_, A, n, c, es⟩ := r
  simp only at h hcap hle hrl ⊢
  obtain ⟨wz, hwz⟩ : ∃ wz, wz = w.alloc (.cells #[.int .i64 num, .int .i64 kind, .int .i64 by_, .int .i64 dl, .int .i64 to_, .int .i64 want, .int .u64 (pr : Int), .int .u64 (rs' : Int), .int .u64 (st : Int), .int .i64 of_, .slice L n cl] tCon) := ⟨_, rfl⟩
  have hz := h.quiet (w' := wz) (by rw [hwz]; exact (Fr.refl _ _).alloc _)
  have k1 : n + 2 ≤ cl := hcap.1
  have k2 : cl ≤ 9223372036854775807 := by have := hcap.2; unfold maxLen at this; exact this
  have hfl : (rs.flatMap ER.cells).length = n * 5 := by rw [rows_len ER.cells 5 ER.cells_len, hrl]
  obtain ⟨b, o, hL, -, m0, -⟩ := hz.ow.look (j := n * 5) (u := .int .i64 (-77)) (by rw [List.getElem?_append_right (by omega), hfl, Nat.sub_self]; rfl)
  obtain ⟨b', o', e, -, m1, -⟩ := hz.ow.look (j := (n + 1) * 5) (u := .int .i64 (-78)) (by rw [List.getElem?_append_right (by omega), hfl, show (n + 1) * 5 - n * 5 = 5 by omega]; rfl)
  rw [hL] at e
  cases e
  subst hL
  have i1 : ((n : Int) + 2) ≤ (cl : Int) := by omega
  have q1 : IntKind.i64.wrap ((n : Int) + 2) = (n : Int) + 2 := IntWalk.i64_in _ (by omega)
  have q2 : IntKind.i64.wrap ((n : Int) + 1) = (n : Int) + 1 := IntWalk.i64_in _ (by omega)
  rw [hwz] at m0 m1
  clear hz hwz wz
  have HL := hide h
  have Hrl := hide hrl
  have HB0 : Hid (Bl (w.alloc (.cells #[.int .i64 num, .int .i64 kind, .int .i64 by_, .int .i64 dl, .int .i64 to_, .int .i64 want, .int .u64 (pr : Int), .int .u64 (rs' : Int), .int .u64 (st : Int), .int .i64 of_, .slice (some ⟨b, o, none⟩) n cl] tCon)) w.heap.size tCon #[.int .i64 num, .int .i64 kind, .int .i64 by_, .int .i64 dl, .int .i64 to_, .int .i64 want, .int .u64 (pr : Int), .int .u64 (rs' : Int), .int .u64 (st : Int), .int .i64 of_, .slice (some ⟨b, o, none⟩) n cl]) := Bl.new _ _ _
  clear h hcap hfl hrl
  go_enter Try.func17, Try.ntmps17
  go_wp2_with fail
  go_loopw [4] (fun vi wr => ∃ j : Nat, j ≤ n ∧ vi = .int .i64 (j : Int) ∧ Hid (Fr (fun _ => False) (w.alloc (.cells #[.int .i64 num, .int .i64 kind, .int .i64 by_, .int .i64 dl, .int .i64 to_, .int .i64 want, .int .u64 (pr : Int), .int .u64 (rs' : Int), .int .u64 (st : Int), .int .i64 of_, .slice (some ⟨b, o, none⟩) n cl] tCon)) wr)) (fun vi _ => n - (intOf vi).toNat)
  case atStart => exact ⟨0, Nat.zero_le _, rfl, Fr.refl _ _⟩
  case round =>
    obtain ⟨wo, rfl⟩ : ∃ wo, wo = wr := ⟨_, rfl⟩
    obtain ⟨j, hj, rfl, HF⟩ := hrel
    have bx := (HB0.out.fr HF.out id).cell' (i := 10) rfl
    have HFo : Hid (Fr (fun _ => False) w wo) := ((Fr.refl _ _).alloc _).trans HF.out
    by_cases hlt : j < n
    · have hjl : j < rs.length := by rw [Hrl.out]; exact hlt
      obtain ⟨b2, o2, e, hc⟩ := (HL.out.quiet HFo.out).row hjl
      cases e
      have d4 := hc 4 _ rfl
      obtain ⟨gi, hi⟩ := (HL.out.quiet HFo.out).li _ (List.getElem_mem hjl)
      have HM := hide (marked_any wo _ _ _ _ gi (HL.out.small _ (List.getElem_mem hjl)) hi)
      obtain ⟨q, hq⟩ : ∃ q, rs[j] = q := ⟨_, rfl⟩
      rw [hq] at d4 HM
      obtain ⟨acc, item, co, pq, X, xn, xc, ws⟩ := q
      simp only at d4 HM
      have i0 : (0 : Int) ≤ (j : Int) := by omega
      have i2 : (j : Int) < (n : Int) := by omega
      have q3 : IntKind.i64.wrap ((j : Int) + 1) = ((j + 1 : Nat) : Int) := by rw [IntWalk.i64_in _ (by omega)]; omega
      have Hlt := hide hlt
      clear hc hi hjl hlt hj hq m0 m1
      go_wp2_with fail
      refine HM.out.mono ?_
      rintro e w' ⟨rfl, rfl⟩
      go_wp2_with fail
      have := Hlt.out
      exact ⟨⟨j + 1, by omega, by first | rfl | go_num, HF⟩, by simp [intOf]; try omega⟩
    · clear m0 m1 HL
      go_wp2_with fail
      go_ret
      exact ⟨rfl, HFo.out⟩
end Go.Proofs.Ytahhecendjfenaa
end

section
/-
  proto's law: command, where both are the same. (printed by pr_cl.py)
-/
namespace Go.Proofs.Ytahhecendjfenaa
open Go.RowKit
set_option linter.unusedVariables false
set_option linter.unusedSimpArgs false
structure KC.like (a b : KC) : Prop where
  id : a.id = b.id
  kind : a.kind = b.kind
  name : a.name = b.name
  to_ : a.to_ = b.to_
  co : a.co = b.co
  item : a.item = b.item
  num : a.num = b.num
  of_ : a.of_ = b.of_
  e : a.e.like b.e
  k : a.k.like b.k
theorem ER.like.blank {a b : ER} (h : a.like b) : a.blank = b.blank := by
  obtain ⟨h1, h2, h3, h4, h5⟩ := h
  unfold ER.blank; rw [h2, h3, h4, h5]
theorem CR.like.blank {a b : CR} (h : a.like b) : a.blank = b.blank := by
  unfold CR.blank; rw [h.num, h.kind, h.by_, h.dl, h.to_, h.want, h.of_, h.pr, h.rs, h.st, h.len]
theorem KC.like.fine {a b : KC} (h : a.like b) : a.fine = b.fine := by
  unfold KC.fine
  rw [h.kind, h.id, h.name, h.to_, h.item, h.num, h.of_, h.e.ok, h.e.1, h.k.ok, h.k.num, h.k.by_, h.k.len]
theorem KC.like.ok {a b : KC} (h : a.like b) : a.ok = b.ok := by
  unfold KC.ok
  rw [h.fine, h.kind, h.name, h.to_, h.co, h.item, h.num, h.of_, h.k.blank, h.e.blank]
theorem KC.like.form {a b : KC} (h : a.like b) : a.form = b.form := by
  unfold KC.form KC.fl
  rw [h.id, h.kind, h.name, h.to_, h.co, h.item, h.num, h.of_, h.e.form, h.k.form]
theorem ER.like.wf {a b : ER} (h : a.like b) (hb : b.wf) : a.wf := by
  obtain ⟨h1, h2, h3, h4, h5⟩ := h
  exact ⟨by rw [h3]; exact hb.co, by rw [h4]; exact hb.pr⟩
theorem KC.like.wf {a b : KC} (h : a.like b) (hb : b.wf) : a.wf :=
  ⟨by rw [h.co]; exact hb.co, h.e.wf hb.e, h.k.wf hb.k, by rw [h.name]; exact hb.name⟩
set_option maxHeartbeats 4000000 in
set_option maxRecDepth 8000 in
theorem commandLike_any (w : World) (a b : KC) (hl : a.like b) (ha : a.at_ w) (hb : b.at_ w) :
    Calls Try.prog 21 #[.agg #[.int .i64 a.id, .int .i64 a.kind, .string (strOf a.name), .int .i64 a.to_, .int .u64 (a.co : Int), .int .i64 a.item, .int .i64 a.num, .int .i64 a.of_, .int .i64 a.e.acc, .int .i64 a.e.item, .int .u64 (a.e.co : Int), .int .u64 (a.e.pr : Int), .slice a.e.A a.e.n a.e.c, .int .i64 a.k.num, .int .i64 a.k.kind, .int .i64 a.k.by_, .int .i64 a.k.dl, .int .i64 a.k.to_, .int .i64 a.k.want, .int .u64 (a.k.pr : Int), .int .u64 (a.k.rs : Int), .int .u64 (a.k.st : Int), .int .i64 a.k.of_, .slice a.k.A a.k.n a.k.c], .agg #[.int .i64 b.id, .int .i64 b.kind, .string (strOf b.name), .int .i64 b.to_, .int .u64 (b.co : Int), .int .i64 b.item, .int .i64 b.num, .int .i64 b.of_, .int .i64 b.e.acc, .int .i64 b.e.item, .int .u64 (b.e.co : Int), .int .u64 (b.e.pr : Int), .slice b.e.A b.e.n b.e.c, .int .i64 b.k.num, .int .i64 b.k.kind, .int .i64 b.k.by_, .int .i64 b.k.dl, .int .i64 b.k.to_, .int .i64 b.k.want, .int .u64 (b.k.pr : Int), .int .u64 (b.k.rs : Int), .int .u64 (b.k.st : Int), .int .i64 b.k.of_, .slice b.k.A b.k.n b.k.c]] w fun e w' => e = .returned (.bool true) ∧ Fr (fun _ => False) w w' := by
  have E1 := hide ha.e
  have E2 := hide hb.e
  have K1 := hide ha.k
  have K2 := hide hb.k
  have HLE := hide hl.e
  have HLK := hide hl.k
  obtain ⟨rid, kind, name, to_, co, item, num, of_, e, k⟩ := a
  obtain ⟨rid', kind', name', to_', co', item', num', of_', e', k'⟩ := b
  obtain ⟨h1, h2, h3, h4, h5, h6, h7, h8, -, -⟩ := hl
  simp only at h1 h2 h3 h4 h5 h6 h7 h8 E1 E2 K1 K2 HLE HLK ⊢
  subst h1 h2 h3 h4 h5 h6 h7 h8
  have HE : Hid (∀ w1, Fr (fun _ => False) w w1 → Calls Try.prog 53 #[.agg #[.int .i64 e.acc, .int .i64 e.item, .int .u64 (e.co : Int), .int .u64 (e.pr : Int), .slice e.A e.n e.c], .agg #[.int .i64 e'.acc, .int .i64 e'.item, .int .u64 (e'.co : Int), .int .u64 (e'.pr : Int), .slice e'.A e'.n e'.c]] w1 fun e w' => e = .returned (.bool true) ∧ Fr (fun _ => False) w1 w') := fun w1 hf => entryLike_any w1 e e' HLE.out (E1.out.quiet hf) (E2.out.quiet hf)
  have HC : Hid (∀ w1, Fr (fun _ => False) w w1 → Calls Try.prog 48 #[.agg #[.int .i64 k.num, .int .i64 k.kind, .int .i64 k.by_, .int .i64 k.dl, .int .i64 k.to_, .int .i64 k.want, .int .u64 (k.pr : Int), .int .u64 (k.rs : Int), .int .u64 (k.st : Int), .int .i64 k.of_, .slice k.A k.n k.c], .agg #[.int .i64 k'.num, .int .i64 k'.kind, .int .i64 k'.by_, .int .i64 k'.dl, .int .i64 k'.to_, .int .i64 k'.want, .int .u64 (k'.pr : Int), .int .u64 (k'.rs : Int), .int .u64 (k'.st : Int), .int .i64 k'.of_, .slice k'.A k'.n k'.c]] w1 fun e w' => e = .returned (.bool true) ∧ Fr (fun _ => False) w1 w') := fun w1 hf => contractLike_any w1 k k' HLK.out (K1.out.quiet hf) (K2.out.quiet hf)
  obtain ⟨str, hstr⟩ : ∃ str, strOf name = str := ⟨_, rfl⟩
  rw [hstr]
  obtain ⟨acc, ei, ec, ep, E, en, ecp, ews⟩ := e
  obtain ⟨acc', ei', ec', ep', E', en', ecp', ews'⟩ := e'
  obtain ⟨knum, kkind, kby, kdl, kto, kwant, kpr, krs, kst, kof, X, xn, xc, kes⟩ := k
  obtain ⟨knum', kkind', kby', kdl', kto', kwant', kpr', krs', kst', kof', X', xn', xc', kes'⟩ := k'
  simp only at HE HC ⊢
  clear E1 E2 K1 K2 HLE HLK ha hb hstr
  have HB0 : Hid (Bl ((w.alloc (.cells #[.int .i64 rid, .int .i64 kind, .string str, .int .i64 to_, .int .u64 (co : Int), .int .i64 item, .int .i64 num, .int .i64 of_, .int .i64 acc, .int .i64 ei, .int .u64 (ec : Int), .int .u64 (ep : Int), .slice E en ecp, .int .i64 knum, .int .i64 kkind, .int .i64 kby, .int .i64 kdl, .int .i64 kto, .int .i64 kwant, .int .u64 (kpr : Int), .int .u64 (krs : Int), .int .u64 (kst : Int), .int .i64 kof, .slice X xn xc] 47)).alloc (.cells #[.int .i64 rid, .int .i64 kind, .string str, .int .i64 to_, .int .u64 (co : Int), .int .i64 item, .int .i64 num, .int .i64 of_, .int .i64 acc', .int .i64 ei', .int .u64 (ec' : Int), .int .u64 (ep' : Int), .slice E' en' ecp', .int .i64 knum', .int .i64 kkind', .int .i64 kby', .int .i64 kdl', .int .i64 kto', .int .i64 kwant', .int .u64 (kpr' : Int), .int .u64 (krs' : Int), .int .u64 (kst' : Int), .int .i64 kof', .slice X' xn' xc'] 47)) w.heap.size 47 #[.int .i64 rid, .int .i64 kind, .string str, .int .i64 to_, .int .u64 (co : Int), .int .i64 item, .int .i64 num, .int .i64 of_, .int .i64 acc, .int .i64 ei, .int .u64 (ec : Int), .int .u64 (ep : Int), .slice E en ecp, .int .i64 knum, .int .i64 kkind, .int .i64 kby, .int .i64 kdl, .int .i64 kto, .int .i64 kwant, .int .u64 (kpr : Int), .int .u64 (krs : Int), .int .u64 (kst : Int), .int .i64 kof, .slice X xn xc]) := (Bl.new _ _ _).alloc _
  have HB1 : Hid (Bl ((w.alloc (.cells #[.int .i64 rid, .int .i64 kind, .string str, .int .i64 to_, .int .u64 (co : Int), .int .i64 item, .int .i64 num, .int .i64 of_, .int .i64 acc, .int .i64 ei, .int .u64 (ec : Int), .int .u64 (ep : Int), .slice E en ecp, .int .i64 knum, .int .i64 kkind, .int .i64 kby, .int .i64 kdl, .int .i64 kto, .int .i64 kwant, .int .u64 (kpr : Int), .int .u64 (krs : Int), .int .u64 (kst : Int), .int .i64 kof, .slice X xn xc] 47)).alloc (.cells #[.int .i64 rid, .int .i64 kind, .string str, .int .i64 to_, .int .u64 (co : Int), .int .i64 item, .int .i64 num, .int .i64 of_, .int .i64 acc', .int .i64 ei', .int .u64 (ec' : Int), .int .u64 (ep' : Int), .slice E' en' ecp', .int .i64 knum', .int .i64 kkind', .int .i64 kby', .int .i64 kdl', .int .i64 kto', .int .i64 kwant', .int .u64 (kpr' : Int), .int .u64 (krs' : Int), .int .u64 (kst' : Int), .int .i64 kof', .slice X' xn' xc'] 47)) (w.heap.size + 1) 47 #[.int .i64 rid, .int .i64 kind, .string str, .int .i64 to_, .int .u64 (co : Int), .int .i64 item, .int .i64 num, .int .i64 of_, .int .i64 acc', .int .i64 ei', .int .u64 (ec' : Int), .int .u64 (ep' : Int), .slice E' en' ecp', .int .i64 knum', .int .i64 kkind', .int .i64 kby', .int .i64 kdl', .int .i64 kto', .int .i64 kwant', .int .u64 (kpr' : Int), .int .u64 (krs' : Int), .int .u64 (kst' : Int), .int .i64 kof', .slice X' xn' xc']) := Bl.newAt (by simp)
  go_enter Try.func21, Try.ntmps21
  go_wp2_with fail
  refine (HE.out _ (by (repeat (first | with_reducible exact Fr.refl _ _ | with_reducible assumption | with_reducible refine Fr.drew ?_ | with_reducible refine Fr.drewN ?_ _ | with_reducible refine Fr.alloc ?_ _ | with_reducible refine Fr.setIn ?_ (by first | exact Or.inl rfl | exact Or.inr (by simp; done) | exact Or.inr (by simp; omega) | exact Or.inr (by omega)) _)))).mono ?_
  rintro x w1 ⟨rfl, hf⟩
  have HF : Hid (Fr (fun _ => False) w w1) := Fr.trans (by (repeat (first | with_reducible exact Fr.refl _ _ | with_reducible assumption | with_reducible refine Fr.drew ?_ | with_reducible refine Fr.drewN ?_ _ | with_reducible refine Fr.alloc ?_ _ | with_reducible refine Fr.setIn ?_ (by first | exact Or.inl rfl | exact Or.inr (by simp; done) | exact Or.inr (by simp; omega) | exact Or.inr (by omega)) _))) hf
  have e0 := HB0.out.fr hf (fun x => x)
  have e1 := HB1.out.fr hf (fun x => x)
  unfold Bl at e0 e1
  clear hf HB0 HB1
  go_wp2_with (first
    | (refine wpList_load_at rfl 28 _ rfl w.heap.size 13 rfl 47 _ #[.int .i64 knum, .int .i64 kkind, .int .i64 kby, .int .i64 kdl, .int .i64 kto, .int .i64 kwant, .int .u64 (kpr : Int), .int .u64 (krs : Int), .int .u64 (kst : Int), .int .i64 kof, .slice X xn xc] (0, 0) _ e0 Try.underlying28 rfl (by kernel_rfl) rfl ?_)
    | (refine wpList_load_at rfl 28 _ rfl (w.heap.size + 1) 13 rfl 47 _ #[.int .i64 knum', .int .i64 kkind', .int .i64 kby', .int .i64 kdl', .int .i64 kto', .int .i64 kwant', .int .u64 (kpr' : Int), .int .u64 (krs' : Int), .int .u64 (kst' : Int), .int .i64 kof', .slice X' xn' xc'] (0, 0) _ e1 Try.underlying28 rfl (by kernel_rfl) rfl ?_))
  clear e0 e1
  refine (HC.out _ HF.out).mono ?_
  rintro x w2 ⟨rfl, hf⟩
  have HF2 := hide (HF.out.trans hf)
  clear hf
  go_wp2_with fail
  go_ret
  exact ⟨rfl, HF2.out⟩
end Go.Proofs.Ytahhecendjfenaa
end
