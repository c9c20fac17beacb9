/-
  Texts merged into one, to keep the claim small: PrI, PdN, PdJ, PdK.
-/
import Derived.Test.YtahhecendjfenaaMd16
import Derived.Test.YtahhecendjfenaaMd20
import Derived.Test.YtahhecendjfenaaMd23
import Derived.Test.YtahhecendjfenaaMd18
import Derived.Test.YtahhecendjfenaaMd24
import Derived.Test.YtahhecendjfenaaMd26
import Derived.Test.YtahhecendjfenaaMd33
import Derived.Test.YtahhecendjfenaaMd35
import Derived.Laws.IdiomCopy
section
/-
  proto's law: markedContract. (printed by pr_like.py)
-/
namespace Go.Proofs.Ytahhecendjfenaa
open Go.RowKit
set_option linter.unusedVariables false
set_option linter.unusedSimpArgs false
set_option maxHeartbeats 4000000 in
set_option maxRecDepth 8000 in
theorem markedContract_any {W : World} (w : World) (r : CR) (L : Option Addr) (cl : Nat) (rs : List ER) (g : Option Nat) (hle : r.n ≤ 2513169434843) (hrl : rs.length = r.n) (h : LEr W w r.es L (r.n + 2) cl rs g mk2) :
    Calls Try.prog 17 #[.agg #[.int .i64 r.num, .int .i64 r.kind, .int .i64 r.by_, .int .i64 r.dl, .int .i64 r.to_, .int .i64 r.want, .int .u64 (r.pr : Int), .int .u64 (r.rs : Int), .int .u64 (r.st : Int), .int .i64 r.of_, .slice L r.n cl]] w fun e w' => e = .returned (.bool true) ∧ Fr (fun _ => False) w w' := by
  have hcap := h.ow.cap
  obtain ⟨num, kind, by_, dl, to_, want, pr, rs', st, of_, A, n, c, es⟩ := r
  simp only at h hcap hle hrl ⊢
  obtain ⟨wz, hwz⟩ : ∃ wz, wz = w.alloc (.cells #[.int .i64 num, .int .i64 kind, .int .i64 by_, .int .i64 dl, .int .i64 to_, .int .i64 want, .int .u64 (pr : Int), .int .u64 (rs' : Int), .int .u64 (st : Int), .int .i64 of_, .slice L n cl] tCon) := ⟨_, rfl⟩
  have hz := h.quiet (w' := wz) (by rw [hwz]; exact (Fr.refl _ _).alloc _)
  have k1 : n + 2 ≤ cl := hcap.1
  have k2 : cl ≤ 9223372036854775807 := by have := hcap.2; unfold maxLen at this; exact this
  have hfl : (rs.flatMap ER.cells).length = n * 5 := by rw [rows_len ER.cells 5 ER.cells_len, hrl]
  obtain ⟨b, o, hL, -, m0, -⟩ := hz.ow.look (j := n * 5) (u := .int .i64 (-77)) (by rw [List.getElem?_append_right (by omega), hfl, Nat.sub_self]; rfl)
  obtain ⟨b', o', e, -, m1, -⟩ := hz.ow.look (j := (n + 1) * 5) (u := .int .i64 (-78)) (by rw [List.getElem?_append_right (by omega), hfl, show (n + 1) * 5 - n * 5 = 5 by omega]; rfl)
  rw [hL] at e
  cases e
  subst hL
  have i1 : ((n : Int) + 2) ≤ (cl : Int) := by omega
  have q1 : IntKind.i64.wrap ((n : Int) + 2) = (n : Int) + 2 := IntWalk.i64_in _ (by omega)
  have q2 : IntKind.i64.wrap ((n : Int) + 1) = (n : Int) + 1 := IntWalk.i64_in _ (by omega)
  rw [hwz] at m0 m1
  clear hz hwz wz
  have HL := hide h
  have Hrl := hide hrl
  have HB0 : Hid (Bl (w.alloc (.cells #[.int .i64 num, .int .i64 kind, .int .i64 by_, .int .i64 dl, .int .i64 to_, .int .i64 want, .int .u64 (pr : Int), .int .u64 (rs' : Int), .int .u64 (st : Int), .int .i64 of_, .slice (some ⟨b, o, none⟩) n cl] tCon)) w.heap.size tCon #[.int .i64 num, .int .i64 kind, .int .i64 by_, .int .i64 dl, .int .i64 to_, .int .i64 want, .int .u64 (pr : Int), .int .u64 (rs' : Int), .int .u64 (st : Int), .int .i64 of_, .slice (some ⟨b, o, none⟩) n cl]) := Bl.new _ _ _
  clear h hcap hfl hrl
  go_enter Try.func17, Try.ntmps17
  go_wp2_with fail
  go_loopw [4] (fun vi wr => ∃ j : Nat, j ≤ n ∧ vi = .int .i64 (j : Int) ∧ Hid (Fr (fun _ => False) (w.alloc (.cells #[.int .i64 num, .int .i64 kind, .int .i64 by_, .int .i64 dl, .int .i64 to_, .int .i64 want, .int .u64 (pr : Int), .int .u64 (rs' : Int), .int .u64 (st : Int), .int .i64 of_, .slice (some ⟨b, o, none⟩) n cl] tCon)) wr)) (fun vi _ => n - (intOf vi).toNat)
  case atStart => exact ⟨0, Nat.zero_le _, rfl, Fr.refl _ _⟩
  case round =>
    obtain ⟨wo, rfl⟩ : ∃ wo, wo = wr := ⟨_, rfl⟩
    obtain ⟨j, hj, rfl, HF⟩ := hrel
    have bx := (HB0.out.fr HF.out id).cell' (i := 10) rfl
    have HFo : Hid (Fr (fun _ => False) w wo) := ((Fr.refl _ _).alloc _).trans HF.out
    by_cases hlt : j < n
    · have hjl : j < rs.length := by rw [Hrl.out]; exact hlt
      obtain ⟨b2, o2, e, hc⟩ := (HL.out.quiet HFo.out).row hjl
      cases e
      have d4 := hc 4 _ rfl
      obtain ⟨gi, hi⟩ := (HL.out.quiet HFo.out).li _ (List.getElem_mem hjl)
      have HM := hide (marked_any wo _ _ _ _ gi (HL.out.small _ (List.getElem_mem hjl)) hi)
      obtain ⟨q, hq⟩ : ∃ q, rs[j] = q := ⟨_, rfl⟩
      rw [hq] at d4 HM
      obtain ⟨acc, item, co, pq, X, xn, xc, ws⟩ := q
      simp only at d4 HM
      have i0 : (0 : Int) ≤ (j : Int) := by omega
      have i2 : (j : Int) < (n : Int) := by omega
      have q3 : IntKind.i64.wrap ((j : Int) + 1) = ((j + 1 : Nat) : Int) := by rw [IntWalk.i64_in _ (by omega)]; omega
      have Hlt := hide hlt
      clear hc hi hjl hlt hj hq m0 m1
      go_wp2_with fail
      refine HM.out.mono ?_
      rintro e w' ⟨rfl, rfl⟩
      go_wp2_with fail
      have := Hlt.out
      exact ⟨⟨j + 1, by omega, by first | rfl | go_num, HF⟩, by simp [intOf]; try omega⟩
    · clear m0 m1 HL
      go_wp2_with fail
      go_ret
      exact ⟨rfl, HFo.out⟩
end Go.Proofs.Ytahhecendjfenaa
end

section
/-
  proto's law: command, where both are the same (for the like of XPd3). (printed by pr_cl.py)
-/
namespace Go.Proofs.Ytahhecendjfenaa
open Go.RowKit
set_option linter.unusedVariables false
set_option linter.unusedSimpArgs false
set_option maxHeartbeats 4000000 in
set_option maxRecDepth 8000 in
theorem commandLike_any (w : World) (a b : KC) (hl : a.like b) (ha : a.at_ w) (hb : b.at_ w) :
    Calls Try.prog 21 #[.agg #[.int .i64 a.id, .int .i64 a.kind, .string (strOf a.name), .int .i64 a.to_, .int .u64 (a.co : Int), .int .i64 a.item, .int .i64 a.num, .int .i64 a.of_, .int .i64 a.e.acc, .int .i64 a.e.item, .int .u64 (a.e.co : Int), .int .u64 (a.e.pr : Int), .slice a.e.A a.e.n a.e.c, .int .i64 a.k.num, .int .i64 a.k.kind, .int .i64 a.k.by_, .int .i64 a.k.dl, .int .i64 a.k.to_, .int .i64 a.k.want, .int .u64 (a.k.pr : Int), .int .u64 (a.k.rs : Int), .int .u64 (a.k.st : Int), .int .i64 a.k.of_, .slice a.k.A a.k.n a.k.c], .agg #[.int .i64 b.id, .int .i64 b.kind, .string (strOf b.name), .int .i64 b.to_, .int .u64 (b.co : Int), .int .i64 b.item, .int .i64 b.num, .int .i64 b.of_, .int .i64 b.e.acc, .int .i64 b.e.item, .int .u64 (b.e.co : Int), .int .u64 (b.e.pr : Int), .slice b.e.A b.e.n b.e.c, .int .i64 b.k.num, .int .i64 b.k.kind, .int .i64 b.k.by_, .int .i64 b.k.dl, .int .i64 b.k.to_, .int .i64 b.k.want, .int .u64 (b.k.pr : Int), .int .u64 (b.k.rs : Int), .int .u64 (b.k.st : Int), .int .i64 b.k.of_, .slice b.k.A b.k.n b.k.c]] w fun e w' => e = .returned (.bool true) ∧ Fr (fun _ => False) w w' := by
  have E1 := hide ha.e
  have E2 := hide hb.e
  have K1 := hide ha.k
  have K2 := hide hb.k
  have HLE := hide hl.e
  have HLK := hide hl.k
  obtain ⟨rid, kind, name, to_, co, item, num, of_, e, k⟩ := a
  obtain ⟨rid', kind', name', to_', co', item', num', of_', e', k'⟩ := b
  obtain ⟨h1, h2, h3, h4, h5, h6, h7, h8, -, -⟩ := hl
  simp only at h1 h2 h3 h4 h5 h6 h7 h8 E1 E2 K1 K2 HLE HLK ⊢
  subst h1 h2 h3 h4 h5 h6 h7 h8
  have HE : Hid (∀ w1, Fr (fun _ => False) w w1 → Calls Try.prog 53 #[.agg #[.int .i64 e.acc, .int .i64 e.item, .int .u64 (e.co : Int), .int .u64 (e.pr : Int), .slice e.A e.n e.c], .agg #[.int .i64 e'.acc, .int .i64 e'.item, .int .u64 (e'.co : Int), .int .u64 (e'.pr : Int), .slice e'.A e'.n e'.c]] w1 fun e w' => e = .returned (.bool true) ∧ Fr (fun _ => False) w1 w') := fun w1 hf => entryLike_any w1 e e' HLE.out (E1.out.quiet hf) (E2.out.quiet hf)
  have HC : Hid (∀ w1, Fr (fun _ => False) w w1 → Calls Try.prog 48 #[.agg #[.int .i64 k.num, .int .i64 k.kind, .int .i64 k.by_, .int .i64 k.dl, .int .i64 k.to_, .int .i64 k.want, .int .u64 (k.pr : Int), .int .u64 (k.rs : Int), .int .u64 (k.st : Int), .int .i64 k.of_, .slice k.A k.n k.c], .agg #[.int .i64 k'.num, .int .i64 k'.kind, .int .i64 k'.by_, .int .i64 k'.dl, .int .i64 k'.to_, .int .i64 k'.want, .int .u64 (k'.pr : Int), .int .u64 (k'.rs : Int), .int .u64 (k'.st : Int), .int .i64 k'.of_, .slice k'.A k'.n k'.c]] w1 fun e w' => e = .returned (.bool true) ∧ Fr (fun _ => False) w1 w') := fun w1 hf => contractLike_any w1 k k' HLK.out (K1.out.quiet hf) (K2.out.quiet hf)
  obtain ⟨str, hstr⟩ : ∃ str, strOf name = str := ⟨_, rfl⟩
  rw [hstr]
  obtain ⟨acc, ei, ec, ep, E, en, ecp, ews⟩ := e
  obtain ⟨acc', ei', ec', ep', E', en', ecp', ews'⟩ := e'
  obtain ⟨knum, kkind, kby, kdl, kto, kwant, kpr, krs, kst, kof, X, xn, xc, kes⟩ := k
  obtain ⟨knum', kkind', kby', kdl', kto', kwant', kpr', krs', kst', kof', X', xn', xc', kes'⟩ := k'
  simp only at HE HC ⊢
  clear E1 E2 K1 K2 HLE HLK ha hb hstr
  have HB0 : Hid (Bl ((w.alloc (.cells #[.int .i64 rid, .int .i64 kind, .string str, .int .i64 to_, .int .u64 (co : Int), .int .i64 item, .int .i64 num, .int .i64 of_, .int .i64 acc, .int .i64 ei, .int .u64 (ec : Int), .int .u64 (ep : Int), .slice E en ecp, .int .i64 knum, .int .i64 kkind, .int .i64 kby, .int .i64 kdl, .int .i64 kto, .int .i64 kwant, .int .u64 (kpr : Int), .int .u64 (krs : Int), .int .u64 (kst : Int), .int .i64 kof, .slice X xn xc] 47)).alloc (.cells #[.int .i64 rid, .int .i64 kind, .string str, .int .i64 to_, .int .u64 (co : Int), .int .i64 item, .int .i64 num, .int .i64 of_, .int .i64 acc', .int .i64 ei', .int .u64 (ec' : Int), .int .u64 (ep' : Int), .slice E' en' ecp', .int .i64 knum', .int .i64 kkind', .int .i64 kby', .int .i64 kdl', .int .i64 kto', .int .i64 kwant', .int .u64 (kpr' : Int), .int .u64 (krs' : Int), .int .u64 (kst' : Int), .int .i64 kof', .slice X' xn' xc'] 47)) w.heap.size 47 #[.int .i64 rid, .int .i64 kind, .string str, .int .i64 to_, .int .u64 (co : Int), .int .i64 item, .int .i64 num, .int .i64 of_, .int .i64 acc, .int .i64 ei, .int .u64 (ec : Int), .int .u64 (ep : Int), .slice E en ecp, .int .i64 knum, .int .i64 kkind, .int .i64 kby, .int .i64 kdl, .int .i64 kto, .int .i64 kwant, .int .u64 (kpr : Int), .int .u64 (krs : Int), .int .u64 (kst : Int), .int .i64 kof, .slice X xn xc]) := (Bl.new _ _ _).alloc _
  have HB1 : Hid (Bl ((w.alloc (.cells #[.int .i64 rid, .int .i64 kind, .string str, .int .i64 to_, .int .u64 (co : Int), .int .i64 item, .int .i64 num, .int .i64 of_, .int .i64 acc, .int .i64 ei, .int .u64 (ec : Int), .int .u64 (ep : Int), .slice E en ecp, .int .i64 knum, .int .i64 kkind, .int .i64 kby, .int .i64 kdl, .int .i64 kto, .int .i64 kwant, .int .u64 (kpr : Int), .int .u64 (krs : Int), .int .u64 (kst : Int), .int .i64 kof, .slice X xn xc] 47)).alloc (.cells #[.int .i64 rid, .int .i64 kind, .string str, .int .i64 to_, .int .u64 (co : Int), .int .i64 item, .int .i64 num, .int .i64 of_, .int .i64 acc', .int .i64 ei', .int .u64 (ec' : Int), .int .u64 (ep' : Int), .slice E' en' ecp', .int .i64 knum', .int .i64 kkind', .int .i64 kby', .int .i64 kdl', .int .i64 kto', .int .i64 kwant', .int .u64 (kpr' : Int), .int .u64 (krs' : Int), .int .u64 (kst' : Int), .int .i64 kof', .slice X' xn' xc'] 47)) (w.heap.size + 1) 47 #[.int .i64 rid, .int .i64 kind, .string str, .int .i64 to_, .int .u64 (co : Int), .int .i64 item, .int .i64 num, .int .i64 of_, .int .i64 acc', .int .i64 ei', .int .u64 (ec' : Int), .int .u64 (ep' : Int), .slice E' en' ecp', .int .i64 knum', .int .i64 kkind', .int .i64 kby', .int .i64 kdl', .int .i64 kto', .int .i64 kwant', .int .u64 (kpr' : Int), .int .u64 (krs' : Int), .int .u64 (kst' : Int), .int .i64 kof', .slice X' xn' xc']) := Bl.newAt (by simp)
  go_enter Try.func21, Try.ntmps21
  go_wp2_with fail
  refine (HE.out _ (by (repeat (first | with_reducible exact Fr.refl _ _ | with_reducible assumption | with_reducible refine Fr.drew ?_ | with_reducible refine Fr.drewN ?_ _ | with_reducible refine Fr.alloc ?_ _ | with_reducible refine Fr.setIn ?_ (by first | exact Or.inl rfl | exact Or.inr (by simp; done) | exact Or.inr (by simp; omega) | exact Or.inr (by omega)) _)))).mono ?_
  rintro x w1 ⟨rfl, hf⟩
  have HF : Hid (Fr (fun _ => False) w w1) := Fr.trans (by (repeat (first | with_reducible exact Fr.refl _ _ | with_reducible assumption | with_reducible refine Fr.drew ?_ | with_reducible refine Fr.drewN ?_ _ | with_reducible refine Fr.alloc ?_ _ | with_reducible refine Fr.setIn ?_ (by first | exact Or.inl rfl | exact Or.inr (by simp; done) | exact Or.inr (by simp; omega) | exact Or.inr (by omega)) _))) hf
  have e0 := HB0.out.fr hf (fun x => x)
  have e1 := HB1.out.fr hf (fun x => x)
  unfold Bl at e0 e1
  clear hf HB0 HB1
  go_wp2_with (first
    | (refine wpList_load_at rfl 28 _ rfl w.heap.size 13 rfl 47 _ #[.int .i64 knum, .int .i64 kkind, .int .i64 kby, .int .i64 kdl, .int .i64 kto, .int .i64 kwant, .int .u64 (kpr : Int), .int .u64 (krs : Int), .int .u64 (kst : Int), .int .i64 kof, .slice X xn xc] (0, 0) _ e0 Try.underlying28 rfl (by kernel_rfl) rfl ?_)
    | (refine wpList_load_at rfl 28 _ rfl (w.heap.size + 1) 13 rfl 47 _ #[.int .i64 knum', .int .i64 kkind', .int .i64 kby', .int .i64 kdl', .int .i64 kto', .int .i64 kwant', .int .u64 (kpr' : Int), .int .u64 (krs' : Int), .int .u64 (kst' : Int), .int .i64 kof', .slice X' xn' xc'] (0, 0) _ e1 Try.underlying28 rfl (by kernel_rfl) rfl ?_))
  clear e0 e1
  refine (HC.out _ HF.out).mono ?_
  rintro x w2 ⟨rfl, hf⟩
  have HF2 := hide (HF.out.trans hf)
  clear hf
  go_wp2_with fail
  go_ret
  exact ⟨rfl, HF2.out⟩
end Go.Proofs.Ytahhecendjfenaa
end

section
/-
  proto: the program's Decode and the document's say the same; copy into a slice of one's own.
-/
namespace Go.Proofs.Ytahhecendjfenaa
open Go.RowKit
set_option linter.unusedVariables false
set_option linter.unusedSimpArgs false
def zeroE : ER := ⟨0, 0, 0, 0, none, 0, 0, []⟩
def zeroK : CR := ⟨0, 0, 0, 0, 0, 0, 0, 0, 0, 0, none, 0, 0, []⟩
def zeroC : KC := ⟨0, 0, [], 0, 0, 0, 0, 0, zeroE, zeroK⟩
def zeroR : RR := ⟨0, 0, 0, 0, none, 0, 0, [], [], 0, zeroK⟩
/-- What bytes say as a command, or the refusal. -/
def KVer (bs : List Nat) (c : KC) (er : Int) : Prop := (512 < bs.length ∧ er = 3 ∧ c = zeroC) ∨ (bs.length ≤ 512 ∧ (∀ q, ¬ KForm bs q) ∧ er = 270 ∧ c = zeroC) ∨ (bs.length ≤ 512 ∧ er = 0 ∧ KForm bs c)
def RVer (bs : List Nat) (c : RR) (er : Int) : Prop := (65536 < bs.length ∧ er = 3 ∧ c = zeroR) ∨ (bs.length ≤ 65536 ∧ (∀ q, ¬ RForm bs q) ∧ er = 270 ∧ c = zeroR) ∨ (bs.length ≤ 65536 ∧ er = 0 ∧ RForm bs c)
theorem CR.like_refl (a : CR) : a.like a := ⟨rfl, rfl, rfl, rfl, rfl, rfl, rfl, rfl, rfl, rfl, rfl, fun i h h' => ER.like_mk rfl rfl rfl rfl rfl⟩
theorem KC.like_refl (a : KC) : a.like a := ⟨rfl, rfl, rfl, rfl, rfl, rfl, rfl, rfl, ER.like_mk rfl rfl rfl rfl rfl, CR.like_refl _⟩
theorem RR.like_refl (a : RR) : a.like a := ⟨rfl, rfl, rfl, rfl, rfl, rfl, rfl, CR.like_refl _⟩
theorem KVer.same {bs : List Nat} {c d : KC} {er er' : Int} (h : KVer bs c er) (k : KVer bs d er') : er = er' ∧ c.like d := by
  rcases h with ⟨h1, rfl, rfl⟩ | ⟨h1, h2, rfl, rfl⟩ | ⟨h1, rfl, h2⟩ <;> rcases k with ⟨k1, rfl, rfl⟩ | ⟨k1, k2, rfl, rfl⟩ | ⟨k1, rfl, k2⟩
  · exact ⟨rfl, KC.like_refl _⟩
  · omega
  · omega
  · omega
  · exact ⟨rfl, KC.like_refl _⟩
  · exact (h2 _ k2).elim
  · omega
  · exact (k2 _ h2).elim
  · exact ⟨rfl, (cmdS_of h2).symm.trans (cmdS_of k2)⟩
theorem RVer.same {bs : List Nat} {c d : RR} {er er' : Int} (h : RVer bs c er) (k : RVer bs d er') : er = er' ∧ c.like d := by
  rcases h with ⟨h1, rfl, rfl⟩ | ⟨h1, h2, rfl, rfl⟩ | ⟨h1, rfl, h2⟩ <;> rcases k with ⟨k1, rfl, rfl⟩ | ⟨k1, k2, rfl, rfl⟩ | ⟨k1, rfl, k2⟩
  · exact ⟨rfl, RR.like_refl _⟩
  · omega
  · omega
  · omega
  · exact ⟨rfl, RR.like_refl _⟩
  · exact (h2 _ k2).elim
  · omega
  · exact (k2 _ h2).elim
  · exact ⟨rfl, (repS_of h2).symm.trans (repS_of k2)⟩
/-- A contract that can be read; its entries lie among entries, their wishes among numbers. -/
structure KCon (w : World) (q : CR) : Prop where
  len : q.n = q.es.length
  ow : ∃ g, Ow w tEnt 5 q.A q.n q.c (q.es.flatMap ER.cells) g
  le : q.n ≤ 1048576
  es : ∀ e ∈ q.es, REnt w e
theorem KCon.frt {w w' : World} {q : CR} (h : KCon w q) {S : Nat → Prop} (hf : Fr S w w') (h1 : ∀ x, Typed w x tEnt → ¬ S x) (hS : ∀ x, Typed w x 3 → ¬ S x) : KCon w' q := by
  obtain ⟨g, hg⟩ := h.ow
  exact ⟨h.len, ⟨g, hg.fr hf fun x e => h1 x (hg.typed x e)⟩, h.le, fun e he => (h.es e he).frt hf hS⟩
theorem KCon.at_ {w : World} {q : CR} (h : KCon w q) : q.at_ w := by
  obtain ⟨g, hg⟩ := h.ow
  have := hg.cap
  unfold maxLen at this
  have := h.le
  exact ⟨hg.sl, by omega, by omega, fun e he => (h.es e he).1⟩
theorem RCon.k {w : World} {q : CR} (h : RCon w q) : KCon w q := ⟨h.len, h.ow, by have := h.le; omega, h.es⟩
theorem REnt.of {w : World} {q : ER} {g : Option Nat} (h : Ow w 3 1 q.A q.n q.c (q.ws.map iv) g) (hn : q.n ≤ 1048576) : REnt w q := by
  have hc := h.cap
  unfold maxLen at hc
  exact ⟨⟨h.sl, by omega, hc.1, hc.2⟩, fun b o e => h.typed b (h.sblk' e)⟩
theorem Ents.k {W w : World} {q : CR} {g : Option Nat} (h : Ents W w q.es q.A q.n q.c g) (hn : q.n ≤ 1048576) : KCon w q :=
  ⟨h.len, ⟨g, h.ow⟩, hn, fun e he => by obtain ⟨h1, gi, h2, -⟩ := h.own e he; exact REnt.of h2 h1⟩
/-- A command that can be read. -/
def KT (w : World) (c : KC) : Prop := REnt w c.e ∧ KCon w c.k
def RT (w : World) (c : RR) : Prop := RLt w c.items c.A c.n c.c ∧ c.n ≤ 65536 ∧ KCon w c.k
theorem KT.frt {w w' : World} {q : KC} (h : KT w q) {S : Nat → Prop} (hf : Fr S w w') (h1 : ∀ x, Typed w x tEnt → ¬ S x) (hS : ∀ x, Typed w x 3 → ¬ S x) : KT w' q := ⟨h.1.frt hf hS, h.2.frt hf h1 hS⟩
theorem KT.at_ {w : World} {q : KC} (h : KT w q) : q.at_ w := ⟨h.1.1, h.2.at_⟩
theorem RLt.frt {w w' : World} {ws : List Int} {A : Option Addr} {n c : Nat} (h : RLt w ws A n c) {S : Nat → Prop} (hf : Fr S w w') (hS : ∀ x, Typed w x 3 → ¬ S x) : RLt w' ws A n c :=
  ⟨⟨h.1.le, h.1.cap, h.1.cap2, h.1.sl.fr (B := 0) hf fun b ⟨o, e⟩ _ => hS b (h.2 b o e)⟩, fun b o e => (h.2 b o e).fr hf (hS b (h.2 b o e))⟩
theorem RT.frt {w w' : World} {q : RR} (h : RT w q) {S : Nat → Prop} (hf : Fr S w w') (h1 : ∀ x, Typed w x tEnt → ¬ S x) (hS : ∀ x, Typed w x 3 → ¬ S x) : RT w' q := ⟨h.1.frt hf hS, h.2.1, h.2.2.frt hf h1 hS⟩
theorem RT.at_ {w : World} {q : RR} (h : RT w q) : q.at_ w := ⟨h.1.1.sl, by have := h.2.1; omega, ⟨h.1.1.cap, h.1.1.cap2⟩, h.2.2.at_⟩
theorem zeroE_at (w : World) : REnt w zeroE := ⟨⟨Sl.nil_ _ _ _, by decide, by decide⟩, fun b o e => by cases e⟩
theorem zeroK_at (w : World) : KCon w zeroK := ⟨rfl, ⟨none, Ow.nil_ _ _ _⟩, by decide, fun e he => by cases he⟩
theorem strOf_nil : strOf [] = ⟨#[]⟩ := rfl
end Go.Proofs.Ytahhecendjfenaa
end

section
/-
  proto: answers as verdicts; copy into a slice of one's own. (printed by pr_dlaw.py)
-/
namespace Go.Proofs.Ytahhecendjfenaa
open Go.RowKit
set_option linter.unusedVariables false
set_option linter.unusedSimpArgs false
def DecIs (bs : List Nat) (w : World) (e : Ending) (w' : World) : Prop := ∃ (c : KC) (er : Int), e = .returned (.tuple #[.agg #[.int .i64 c.id, .int .i64 c.kind, .string (strOf c.name), .int .i64 c.to_, .int .u64 (c.co : Int), .int .i64 c.item, .int .i64 c.num, .int .i64 c.of_, .int .i64 c.e.acc, .int .i64 c.e.item, .int .u64 (c.e.co : Int), .int .u64 (c.e.pr : Int), .slice c.e.A c.e.n c.e.c, .int .i64 c.k.num, .int .i64 c.k.kind, .int .i64 c.k.by_, .int .i64 c.k.dl, .int .i64 c.k.to_, .int .i64 c.k.want, .int .u64 (c.k.pr : Int), .int .u64 (c.k.rs : Int), .int .u64 (c.k.st : Int), .int .i64 c.k.of_, .slice c.k.A c.k.n c.k.c], .int .i64 er]) ∧ Hid (KVer bs c er) ∧ Hid (KT w' c) ∧ Fr (fun _ => False) w w'
def RepIs (bs : List Nat) (w : World) (e : Ending) (w' : World) : Prop := ∃ (c : RR) (er : Int), e = .returned (.tuple #[.agg #[.int .i64 c.id, .int .i64 c.err, .int .i64 c.num, .int .u64 (c.co : Int), .slice c.A c.n c.c, .string (strOf c.txt), .int .u32 (c.bits : Int), .int .i64 c.k.num, .int .i64 c.k.kind, .int .i64 c.k.by_, .int .i64 c.k.dl, .int .i64 c.k.to_, .int .i64 c.k.want, .int .u64 (c.k.pr : Int), .int .u64 (c.k.rs : Int), .int .u64 (c.k.st : Int), .int .i64 c.k.of_, .slice c.k.A c.k.n c.k.c], .int .i64 er]) ∧ Hid (RVer bs c er) ∧ Hid (RT w' c) ∧ Fr (fun _ => False) w w'
theorem zeroC_T (w : World) : KT w zeroC := ⟨zeroE_at w, zeroK_at w⟩
theorem zeroR_T (w : World) : RT w zeroR := ⟨⟨⟨by decide, by decide, by decide, Sl.nil_ _ _ _⟩, fun b o e => by cases e⟩, by decide, zeroK_at w⟩
theorem DecPost.is {bs : List Nat} {w w' : World} {e : Ending} (h : DecPost bs w e w') : DecIs bs w e w' := by
  rcases h with ⟨h1, rfl, hf⟩ | ⟨h1, h2, rfl, hf⟩ | ⟨h1, c, h2, rfl, h3, hf⟩
  · exact ⟨zeroC, 3, rfl, .inl ⟨h1, rfl, rfl⟩, zeroC_T _, hf⟩
  · exact ⟨zeroC, 270, rfl, .inr (.inl ⟨h1, h2, rfl, rfl⟩), zeroC_T _, hf⟩
  · obtain ⟨ge, o1, -⟩ := h3.eo
    obtain ⟨gk, o2⟩ := h3.ko
    exact ⟨c, 0, rfl, .inr (.inr ⟨h1, rfl, h2⟩), ⟨REnt.of o1 h3.en, o2.k h3.kn⟩, hf⟩
theorem RDecPost.is {bs : List Nat} {w w' : World} {e : Ending} (h : RDecPost bs w e w') : DecIs bs w e w' := by
  rcases h with ⟨h1, rfl, hf⟩ | ⟨h1, h2, rfl, hf⟩ | ⟨h1, c, h2, rfl, h3, hf⟩
  · exact ⟨zeroC, 3, rfl, .inl ⟨h1, rfl, rfl⟩, zeroC_T _, hf⟩
  · exact ⟨zeroC, 270, rfl, .inr (.inl ⟨h1, h2, rfl, rfl⟩), zeroC_T _, hf⟩
  · exact ⟨c, 0, rfl, .inr (.inr ⟨h1, rfl, h2⟩), ⟨h3.1, h3.2.k⟩, hf⟩
theorem RepPost.is {bs : List Nat} {w w' : World} {e : Ending} (h : RepPost bs w e w') : RepIs bs w e w' := by
  rcases h with ⟨h1, rfl, hf⟩ | ⟨h1, h2, rfl, hf⟩ | ⟨h1, c, h2, rfl, h3, hf⟩
  · exact ⟨zeroR, 3, rfl, .inl ⟨h1, rfl, rfl⟩, zeroR_T _, hf⟩
  · exact ⟨zeroR, 270, rfl, .inr (.inl ⟨h1, h2, rfl, rfl⟩), zeroR_T _, hf⟩
  · obtain ⟨ge, o1, -⟩ := h3.eo
    obtain ⟨gk, o2⟩ := h3.ko
    have hc := o1.cap
    unfold maxLen at hc
    have hlen : c.n = c.items.length := by have := o1.1; simpa using this.symm
    have hle := (RR.ok_split h2.ok).2.2.2.2.1
    exact ⟨c, 0, rfl, .inr (.inr ⟨h1, rfl, h2⟩), ⟨⟨⟨by omega, hc.1, hc.2, o1.sl⟩, fun b o e => o1.typed b (o1.sblk' e)⟩, by omega, o2.k h3.kn⟩, hf⟩
theorem RRepPost.is {bs : List Nat} {w w' : World} {e : Ending} (h : RRepPost bs w e w') : RepIs bs w e w' := by
  rcases h with ⟨h1, rfl, hf⟩ | ⟨h1, h2, rfl, hf⟩ | ⟨h1, c, h2, rfl, h3, hf⟩
  · exact ⟨zeroR, 3, rfl, .inl ⟨h1, rfl, rfl⟩, zeroR_T _, hf⟩
  · exact ⟨zeroR, 270, rfl, .inr (.inl ⟨h1, h2, rfl, rfl⟩), zeroR_T _, hf⟩
  · exact ⟨c, 0, rfl, .inr (.inr ⟨h1, rfl, h2⟩), ⟨h3.1, h3.1.1.le, h3.2.k⟩, hf⟩
theorem u8size27 : (Try.prog.info? 5).map (·.size) = some 1 := by kernel_rfl
/-- copy over the beginning of a slice of one's own. -/
theorem wpList_copy_ow {w : World} {ops : Array Oper} {rest : List Oper} {o : Oper} {a : Act} {Q : Exit → Act → World → Prop} (hgd : o.guard = none) (d s : Operand)
    (hop : o.op = .call { callee := .builtin .copy, args := #[d, s], argTypes := #[33, 33] })
    (L : Option Addr) (n cd N c : Nat) (ys : List Value) (g : Option Nat) (hd : a.eval d = .slice L n cd) (hO : Ow w 5 1 L N c ys g) (hnN : n ≤ N)
    (S : Option Addr) (m cs : Nat) (zs : List Value) (hsv : a.eval s = .slice S m cs) (hS : Sl w 1 S m zs) (h1 : ∀ v ∈ zs, v.oneCell' = true)
    (h : ∀ w', Ow w' 5 1 L N c (zs.take (Nat.min m n) ++ ys.drop (Nat.min m n)) g → Fr (fun x => some x = g) w w' → wpList Try.prog ops Q rest (a.put o.dst (goInt (Nat.min m n))) w') : wpList Try.prog ops Q (o :: rest) a w := by
  have hzl : zs.length = m := by have := hS.1; simpa using this
  have hyl : ys.length = N := by have := hO.1; simpa using this
  by_cases h0 : Nat.min m n = 0
  · refine wpList_plain hgd fun K hK => ?_
    have hrun := run_copy_none (P := Try.prog) w 33 33 o.type 5 L S n cd m cs Try.underlying33 u8size27 h0
    unfold Oper.wp execOp
    simp only [hop, resolve, invoke, builtin, Sem.run_bind, Sem.run_pure, Result.andThen_ok, List.map_toArray, List.map_cons, List.map_nil, hd, hsv, hrun]
    refine hK _ _ ?_
    have := h w (by rw [h0]; simpa using hO) (Fr.refl _ _)
    rw [h0] at this
    exact this
  · have hmn : Nat.min m n ≤ m ∧ Nat.min m n ≤ n := ⟨Nat.min_le_left .., Nat.min_le_right ..⟩
    obtain ⟨k, hk⟩ : ∃ k, Nat.min m n = k := ⟨_, rfl⟩
    rw [hk] at h0 h hmn
    obtain ⟨bs, os, rfl, hsc⟩ := hS.2 (by omega)
    have hO' := hO
    rcases hO.2 with ⟨-, h2, -⟩ | ⟨b, of, cur, rfl, rfl, hh, h2, h3, h4, h5⟩
    · omega
    refine wpList_plain hgd fun K hK => ?_
    have hlen : (zs.take k).length = k := by rw [List.length_take]; omega
    have hrun := run_copy_cells (P := Try.prog) w 33 33 o.type 5 b of n cd ⟨bs, os, none⟩ m cs (zs.take k) Try.underlying33 u8size27 (by rw [hlen, hk]) (fun j v hv => by
      have hj : j < k := by rw [← hlen]; exact (List.getElem?_eq_some_iff.1 hv).1
      rw [List.getElem?_take_of_lt hj] at hv
      rw [Addr.add_lit]; exact hsc j v hv) (fun j hj => by
      rw [hlen] at hj
      have hc : cur[of + j]? = ys[j]? := h5 j (by omega)
      simp [World.cell?, hh, hc]
      omega) (fun j hj => by simp [World.frozen?, hh]) (fun v hv => h1 v (List.mem_of_mem_take hv))
    rw [hlen] at hrun
    obtain ⟨cur', a1, a2, a3, a4⟩ := heap_setCells b (zs.take k) of w cur 5 hh (fun _ _ => trivial)
    rw [hlen] at a3 a4
    unfold Oper.wp execOp
    simp only [hop, resolve, invoke, builtin, Sem.run_bind, Sem.run_pure, Result.andThen_ok, List.map_toArray, List.map_cons, List.map_nil, hd, hsv, hrun]
    refine hK _ _ (h _ ⟨by rw [List.length_append, hlen, List.length_drop]; omega, .inr ⟨b, of, cur', rfl, rfl, a1, by rw [a2]; exact h2, h3, h4, fun j hj => ?_⟩⟩ ((fr_setCells b _ of w).mono fun x _ e => by rw [e]))
    by_cases hjk : j < k
    · rw [List.getElem?_append_left (by rw [hlen]; exact hjk)]
      have hjz : j < (zs.take k).length := by rw [hlen]; exact hjk
      rw [List.getElem?_eq_getElem hjz]
      exact a4 (by omega) j _ (List.getElem?_eq_getElem hjz)
    · rw [List.getElem?_append_right (by rw [hlen]; omega), hlen, List.getElem?_drop, show k + (j - k) = j by omega, a3 (of + j) (.inr (by omega))]
      exact h5 j hj
end Go.Proofs.Ytahhecendjfenaa
end
