/-
  Texts merged into one, to keep the claim small: St5, St8.
-/
import Derived.Test.YtlcjhbemgagchaaMc2
import Derived.Test.YtlcjhbemgagchaaMc24
import Derived.Test.YtlcjhbemgagchaaMc14
import Derived.Test.YtlcjhbemgagchaaMc21
import Derived.Test.YtlcjhbemgagchaaMc17
section
/-
  The law's helpers of chapter 29: ints, entry, contract, reply, command, where both are the same.
-/
namespace Go.Proofs.Ytlcjhbemgagchaa
open Go.RowKit
set_option linter.unusedVariables false
set_option linter.unusedSimpArgs false
set_option maxHeartbeats 1000000 in
set_option maxRecDepth 4000 in
/-- ints, where the numbers are the same: true. -/
theorem ints29_q (w : World) (xs : List Int) (A B : Option Addr) (c d : Nat) (n : Nat) (hn : n = xs.length) (h63 : n ≤ 9223372036854775806) (hA : Sl w 1 A n (xs.map iv)) (hB : Sl w 1 B n (xs.map iv)) :
    Calls Try.prog 99 #[.slice A n c, .slice B n d] w fun e w' => e = .returned (.bool true) ∧ ∃ m, w' = w.drewN m := by
  have Hn := hide hn
  clear hn
  go_enter Try.func99, Try.ntmps99
  go_wp2_with fail
  go_loopw [5] (fun i wr => ∃ (k m : Nat), k ≤ n ∧ i = .int .i64 k ∧ Hid (wr = w.drewN m)) (fun i _ => n - (intOf i).toNat)
  case atStart => exact ⟨0, 0, Nat.zero_le _, rfl, rfl⟩
  case round =>
    obtain ⟨k, m, hk, rfl, hw⟩ := hrel
    obtain rfl := hw.out
    clear hw
    by_cases hlt : k < n
    · have hkl : k < xs.length := by rw [← Hn.out]; exact hlt
      obtain ⟨z, hz⟩ : ∃ z, xs[k] = z := ⟨_, rfl⟩
      have hu : (xs.map iv)[k]? = some (.int .i64 z) := by rw [List.getElem?_map, List.getElem?_eq_getElem hkl, hz]; rfl
      obtain ⟨b, o, rfl, ca⟩ := hA.at_ hu
      obtain ⟨b', o', rfl, cb⟩ := hB.at_ hu
      clear hA hB hu hz hkl
      have i0 : (0 : Int) ≤ (k : Int) := by omega
      have i1 : (k : Int) < (n : Int) := by omega
      go_wp2_with fail
      go_quiet (fail)
      go_wp2_with fail
      exact ⟨⟨k + 1, _, by omega, by go_num, rfl⟩, by simp [intOf]; omega⟩
    · go_wp2_with fail
      go_ret
      exact ⟨rfl, _, rfl⟩
set_option maxHeartbeats 1000000 in
set_option maxRecDepth 4000 in
theorem entryLike29_any (w : World) (a b : ER) (hl : a.like b) (ha : a.at_ w) (hb : b.at_ w) :
    Calls Try.prog 63 #[.agg #[.int .i64 a.acc, .int .i64 a.item, .int .u64 (a.co : Int), .int .u64 (a.pr : Int), .slice a.A a.n a.c], .agg #[.int .i64 b.acc, .int .i64 b.item, .int .u64 (b.co : Int), .int .u64 (b.pr : Int), .slice b.A b.n b.c]] w fun e w' => e = .returned (.bool true) ∧ Fr (fun _ => False) w w' := by
  have e1 := ha.sl.ilen
  have e2 := hb.sl.ilen
  have l1 := ha.le
  have S1 := hide ha.sl
  have S2 := hide hb.sl
  obtain ⟨acc, item, co, pr, A, n, c, ws⟩ := a
  obtain ⟨acc', item', co', pr', A', n', c', ws'⟩ := b
  obtain ⟨h1, h2, h3, h4, h5⟩ := hl
  simp only at h1 h2 h3 h4 h5 e1 e2 l1 S1 S2 ⊢
  subst h1 h2 h3 h4 h5
  obtain rfl : n = n' := e1.trans e2.symm
  have HC : Hid (∀ w1, Fr (fun _ => False) w w1 → Calls Try.prog 99 #[.slice A n c, .slice A' n c'] w1 fun e w' => e = .returned (.bool true) ∧ ∃ m, w' = w1.drewN m) := fun w1 hf => ints29_q w1 ws A A' c c' n e1 (by omega) (S1.out.quiet hf) (S2.out.quiet hf)
  clear e1 e2 l1 S1 S2 ha hb
  go_enter Try.func63, Try.ntmps63
  go_wp2_with fail
  refine (HC.out _ (by (repeat (first | with_reducible exact Fr.refl _ _ | with_reducible assumption | with_reducible refine Fr.drew ?_ | with_reducible refine Fr.drewN ?_ _ | with_reducible refine Fr.alloc ?_ _ | with_reducible refine Fr.setIn ?_ (by first | exact Or.inl rfl | exact Or.inr (by simp; done) | exact Or.inr (by simp; omega) | exact Or.inr (by omega)) _)))).mono ?_
  rintro e w1 ⟨rfl, hd⟩
  have HF : Hid (Fr (fun _ => False) w w1) := Fr.trans (by (repeat (first | with_reducible exact Fr.refl _ _ | with_reducible assumption | with_reducible refine Fr.drew ?_ | with_reducible refine Fr.drewN ?_ _ | with_reducible refine Fr.alloc ?_ _ | with_reducible refine Fr.setIn ?_ (by first | exact Or.inl rfl | exact Or.inr (by simp; done) | exact Or.inr (by simp; omega) | exact Or.inr (by omega)) _))) (fr_of_drewN hd)
  clear hd
  go_wp2_with fail
  go_ret
  exact ⟨rfl, HF.out⟩
set_option maxHeartbeats 4000000 in
set_option maxRecDepth 8000 in
theorem contractLike29_any (w : World) (a b : CR) (hl : a.like b) (ha : a.at_ w) (hb : b.at_ w) :
    Calls Try.prog 64 #[.agg #[.int .i64 a.num, .int .i64 a.kind, .int .i64 a.by_, .int .i64 a.dl, .int .i64 a.to_, .int .i64 a.want, .int .u64 (a.pr : Int), .int .u64 (a.rs : Int), .int .u64 (a.st : Int), .int .i64 a.of_, .slice a.A a.n a.c], .agg #[.int .i64 b.num, .int .i64 b.kind, .int .i64 b.by_, .int .i64 b.dl, .int .i64 b.to_, .int .i64 b.want, .int .u64 (b.pr : Int), .int .u64 (b.rs : Int), .int .u64 (b.st : Int), .int .i64 b.of_, .slice b.A b.n b.c]] w fun e w' => e = .returned (.bool true) ∧ Fr (fun _ => False) w w' := by
  have e1 := ha.len
  have e2 := hb.len
  have e3 := hl.len
  have hle := ha.le
  have HA := hide ha
  have HB := hide hb
  have HL := hide hl.es
  obtain ⟨num, kind, by_, dl, to_, want, pr, rs, st, of_, A, n, c, es⟩ := a
  obtain ⟨num', kind', by_', dl', to_', want', pr', rs', st', of_', A', n', c', es'⟩ := b
  obtain ⟨h1, h2, h3, h4, h5, h6, h7, h8, h9, h10, -, -⟩ := hl
  simp only at h1 h2 h3 h4 h5 h6 h7 h8 h9 h10 e1 e2 e3 hle HA HB HL ⊢
  subst h1 h2 h3 h4 h5 h6 h7 h8 h9 h10
  obtain rfl : n = n' := e1.trans (e3.trans e2.symm)
  have E1 := hide e1
  have E2 := hide e2
  clear e1 e2 e3 ha hb
  have HB0 : Hid (Bl ((w.alloc (.cells #[.int .i64 num, .int .i64 kind, .int .i64 by_, .int .i64 dl, .int .i64 to_, .int .i64 want, .int .u64 (pr : Int), .int .u64 (rs : Int), .int .u64 (st : Int), .int .i64 of_, .slice A n c] tCon)).alloc (.cells #[.int .i64 num, .int .i64 kind, .int .i64 by_, .int .i64 dl, .int .i64 to_, .int .i64 want, .int .u64 (pr : Int), .int .u64 (rs : Int), .int .u64 (st : Int), .int .i64 of_, .slice A' n c'] tCon)) w.heap.size tCon #[.int .i64 num, .int .i64 kind, .int .i64 by_, .int .i64 dl, .int .i64 to_, .int .i64 want, .int .u64 (pr : Int), .int .u64 (rs : Int), .int .u64 (st : Int), .int .i64 of_, .slice A n c]) := (Bl.new _ _ _).alloc _
  have HB1 : Hid (Bl ((w.alloc (.cells #[.int .i64 num, .int .i64 kind, .int .i64 by_, .int .i64 dl, .int .i64 to_, .int .i64 want, .int .u64 (pr : Int), .int .u64 (rs : Int), .int .u64 (st : Int), .int .i64 of_, .slice A n c] tCon)).alloc (.cells #[.int .i64 num, .int .i64 kind, .int .i64 by_, .int .i64 dl, .int .i64 to_, .int .i64 want, .int .u64 (pr : Int), .int .u64 (rs : Int), .int .u64 (st : Int), .int .i64 of_, .slice A' n c'] tCon)) (w.heap.size + 1) tCon #[.int .i64 num, .int .i64 kind, .int .i64 by_, .int .i64 dl, .int .i64 to_, .int .i64 want, .int .u64 (pr : Int), .int .u64 (rs : Int), .int .u64 (st : Int), .int .i64 of_, .slice A' n c']) := Bl.newAt (by simp)
  have HF0 : Hid (Fr (fun _ => False) w ((w.alloc (.cells #[.int .i64 num, .int .i64 kind, .int .i64 by_, .int .i64 dl, .int .i64 to_, .int .i64 want, .int .u64 (pr : Int), .int .u64 (rs : Int), .int .u64 (st : Int), .int .i64 of_, .slice A n c] tCon)).alloc (.cells #[.int .i64 num, .int .i64 kind, .int .i64 by_, .int .i64 dl, .int .i64 to_, .int .i64 want, .int .u64 (pr : Int), .int .u64 (rs : Int), .int .u64 (st : Int), .int .i64 of_, .slice A' n c'] tCon))) := ((Fr.refl _ _).alloc _).alloc _
  go_enter Try.func64, Try.ntmps64
  go_wp2_with fail
  go_loopw [5] (fun i wr => ∃ (k : Nat), k ≤ n ∧ i = .int .i64 k ∧ Hid (Fr (fun _ => False) ((w.alloc (.cells #[.int .i64 num, .int .i64 kind, .int .i64 by_, .int .i64 dl, .int .i64 to_, .int .i64 want, .int .u64 (pr : Int), .int .u64 (rs : Int), .int .u64 (st : Int), .int .i64 of_, .slice A n c] tCon)).alloc (.cells #[.int .i64 num, .int .i64 kind, .int .i64 by_, .int .i64 dl, .int .i64 to_, .int .i64 want, .int .u64 (pr : Int), .int .u64 (rs : Int), .int .u64 (st : Int), .int .i64 of_, .slice A' n c'] tCon)) wr)) (fun i _ => n - (intOf i).toNat)
  case atStart => exact ⟨0, Nat.zero_le _, rfl, Fr.refl _ _⟩
  case round =>
    obtain ⟨wo, rfl⟩ : ∃ wo, wo = wr := ⟨_, rfl⟩
    obtain ⟨k, hk, rfl, HF⟩ := hrel
    obtain ⟨w0, hw0⟩ : ∃ w0, w0 = ((w.alloc (.cells #[.int .i64 num, .int .i64 kind, .int .i64 by_, .int .i64 dl, .int .i64 to_, .int .i64 want, .int .u64 (pr : Int), .int .u64 (rs : Int), .int .u64 (st : Int), .int .i64 of_, .slice A n c] tCon)).alloc (.cells #[.int .i64 num, .int .i64 kind, .int .i64 by_, .int .i64 dl, .int .i64 to_, .int .i64 want, .int .u64 (pr : Int), .int .u64 (rs : Int), .int .u64 (st : Int), .int .i64 of_, .slice A' n c'] tCon)) := ⟨_, rfl⟩
    rw [← hw0] at HB0 HB1 HF0 HF
    have Hw0 := hide hw0
    clear hw0
    have bx0 := (HB0.out.fr HF.out id).cell' (i := 10) rfl
    have bx1 := (HB1.out.fr HF.out id).cell' (i := 10) rfl
    by_cases hlt : k < n
    · have hkl : k < es.length := by rw [← (E1.out : n = es.length)]; exact hlt
      have hkl' : k < es'.length := by rw [← (E2.out : n = es'.length)]; exact hlt
      have hfo := HF0.out.trans HF.out
      obtain ⟨b, o, hA, hc⟩ := (HA.out.quiet hfo).row hkl
      obtain ⟨b', o', hA', hc'⟩ := (HB.out.quiet hfo).row hkl'
      simp only at hA hA' hc hc'
      have HE : Hid ((es[k]).at_ wo) := (HA.out.quiet hfo).es _ (List.getElem_mem hkl)
      have HE' : Hid ((es'[k]).at_ wo) := (HB.out.quiet hfo).es _ (List.getElem_mem hkl')
      have Hlike : Hid ((es[k]).like (es'[k])) := HL.out k hkl hkl'
      clear hfo
      obtain ⟨e, he⟩ : ∃ e, es[k] = e := ⟨_, rfl⟩
      obtain ⟨e', he'⟩ : ∃ e', es'[k] = e' := ⟨_, rfl⟩
      rw [he] at hc HE Hlike
      rw [he'] at hc' HE' Hlike
      clear he he'
      have HC : Hid (∀ w1, Fr (fun _ => False) wo w1 → Calls Try.prog 63 #[.agg #[.int .i64 e.acc, .int .i64 e.item, .int .u64 (e.co : Int), .int .u64 (e.pr : Int), .slice e.A e.n e.c], .agg #[.int .i64 e'.acc, .int .i64 e'.item, .int .u64 (e'.co : Int), .int .u64 (e'.pr : Int), .slice e'.A e'.n e'.c]] w1 fun x w' => x = .returned (.bool true) ∧ Fr (fun _ => False) w1 w') := fun w1 hf => entryLike29_any w1 e e' Hlike.out (HE.out.quiet hf) (HE'.out.quiet hf)
      obtain ⟨acc, item, co, pq, X, xn, xc, ws⟩ := e
      obtain ⟨acc', item', co', pq', X', xn', xc', ws'⟩ := e'
      simp only at HC
      have d0 := hc 0 _ rfl
      rw [Nat.add_zero] at d0
      have d1 := hc 1 _ rfl
      have d2 := hc 2 _ rfl
      have d3 := hc 3 _ rfl
      have d4 := hc 4 _ rfl
      have q0 := hc' 0 _ rfl
      rw [Nat.add_zero] at q0
      have q1 := hc' 1 _ rfl
      have q2 := hc' 2 _ rfl
      have q3 := hc' 3 _ rfl
      have q4 := hc' 4 _ rfl
      subst hA hA'
      have i0 : (0 : Int) ≤ (k : Int) := by omega
      have i1 : (k : Int) < (n : Int) := by omega
      have i2 : IntKind.i64.wrap ((k : Int) + 1) = ((k + 1 : Nat) : Int) := by rw [IntWalk.i64_in _ (by omega)]; omega
      have Hlt := hide hlt
      clear hc hc' hkl hkl' hlt hk HE HE' Hlike HA HB HL HB0 HB1 HF0
      go_wp2_with fail
      go_region_held3 (fun w' => w'.cell? ⟨w.heap.size, 10, none⟩ = some (.slice (some ⟨b, o, none⟩) n c) ∧ w'.cell? ⟨w.heap.size + 1, 10, none⟩ = some (.slice (some ⟨b', o', none⟩) n c') ∧ w'.cell? ⟨b, o + k * 5, none⟩ = some (.int .i64 acc) ∧ w'.cell? ⟨b, o + k * 5 + 1, none⟩ = some (.int .i64 item) ∧ w'.cell? ⟨b, o + k * 5 + 2, none⟩ = some (.int .u64 (co : Int)) ∧ w'.cell? ⟨b, o + k * 5 + 3, none⟩ = some (.int .u64 (pq : Int)) ∧ w'.cell? ⟨b, o + k * 5 + 4, none⟩ = some (.slice X xn xc) ∧ w'.cell? ⟨b', o' + k * 5, none⟩ = some (.int .i64 acc') ∧ w'.cell? ⟨b', o' + k * 5 + 1, none⟩ = some (.int .i64 item') ∧ w'.cell? ⟨b', o' + k * 5 + 2, none⟩ = some (.int .u64 (co' : Int)) ∧ w'.cell? ⟨b', o' + k * 5 + 3, none⟩ = some (.int .u64 (pq' : Int)) ∧ w'.cell? ⟨b', o' + k * 5 + 4, none⟩ = some (.slice X' xn' xc')) (go_keep)
        ((go_at_call 63; refine (HC.out _ (by exact (Fr.refl (fun _ => False) _).drew)).mono ?_; rintro x w4 ⟨rfl, hf4⟩; have bx0y := (hf4.cell (World.block_lt_of_cell? wo _ bx0) id).trans bx0; have bx1y := (hf4.cell (World.block_lt_of_cell? wo _ bx1) id).trans bx1; have d0y := (hf4.cell (World.block_lt_of_cell? wo _ d0) id).trans d0; have d1y := (hf4.cell (World.block_lt_of_cell? wo _ d1) id).trans d1; have d2y := (hf4.cell (World.block_lt_of_cell? wo _ d2) id).trans d2; have d3y := (hf4.cell (World.block_lt_of_cell? wo _ d3) id).trans d3; have d4y := (hf4.cell (World.block_lt_of_cell? wo _ d4) id).trans d4; have q0y := (hf4.cell (World.block_lt_of_cell? wo _ q0) id).trans q0; have q1y := (hf4.cell (World.block_lt_of_cell? wo _ q1) id).trans q1; have q2y := (hf4.cell (World.block_lt_of_cell? wo _ q2) id).trans q2; have q3y := (hf4.cell (World.block_lt_of_cell? wo _ q3) id).trans q3; have q4y := (hf4.cell (World.block_lt_of_cell? wo _ q4) id).trans q4))
      have HF4 : Hid (Fr (fun _ => False) w0 w4) := HF.out.trans (Fr.trans ((Fr.refl _ _).drew) hf4)
      clear hf4 d0 d1 d2 d3 d4 q0 q1 q2 q3 q4 bx0 bx1 bx0y bx1y d0y d1y d2y d3y d4y q0y q1y q2y q3y q4y
      go_wp2_with fail
      have := Hlt.out
      exact ⟨⟨k + 1, by omega, by first | rfl | go_num, by rw [← Hw0.out]; exact HF4⟩, by simp [intOf]; try omega⟩
    · have HFe : Hid (Fr (fun _ => False) w wo) := HF0.out.trans HF.out
      go_wp2_with fail
      go_ret
      exact ⟨rfl, HFe.out⟩
set_option maxHeartbeats 4000000 in
set_option maxRecDepth 8000 in
theorem replyLike29_any (w : World) (a b : RR) (hl : a.like b) (ha : a.at_ w) (hb : b.at_ w) :
    Calls Try.prog 51 #[.agg #[.int .i64 a.id, .int .i64 a.err, .int .i64 a.num, .int .u64 (a.co : Int), .slice a.A a.n a.c, .string (strOf a.txt), .int .u32 (a.bits : Int), .int .i64 a.k.num, .int .i64 a.k.kind, .int .i64 a.k.by_, .int .i64 a.k.dl, .int .i64 a.k.to_, .int .i64 a.k.want, .int .u64 (a.k.pr : Int), .int .u64 (a.k.rs : Int), .int .u64 (a.k.st : Int), .int .i64 a.k.of_, .slice a.k.A a.k.n a.k.c], .agg #[.int .i64 b.id, .int .i64 b.err, .int .i64 b.num, .int .u64 (b.co : Int), .slice b.A b.n b.c, .string (strOf b.txt), .int .u32 (b.bits : Int), .int .i64 b.k.num, .int .i64 b.k.kind, .int .i64 b.k.by_, .int .i64 b.k.dl, .int .i64 b.k.to_, .int .i64 b.k.want, .int .u64 (b.k.pr : Int), .int .u64 (b.k.rs : Int), .int .u64 (b.k.st : Int), .int .i64 b.k.of_, .slice b.k.A b.k.n b.k.c]] w fun e w' => e = .returned (.bool true) ∧ Fr (fun _ => False) w w' := by
  have e1 := ha.sl.ilen
  have e2 := hb.sl.ilen
  have hle := ha.le
  have S1 := hide ha.sl
  have S2 := hide hb.sl
  have K1 := hide ha.k
  have K2 := hide hb.k
  have HK := hide hl.k
  obtain ⟨id, err, num, co, A, n, c, items, txt, bits, k⟩ := a
  obtain ⟨id', err', num', co', A', n', c', items', txt', bits', k'⟩ := b
  obtain ⟨h1, h2, h3, h4, h5, h6, h7, -⟩ := hl
  simp only at h1 h2 h3 h4 h5 h6 h7 e1 e2 hle S1 S2 K1 K2 HK ⊢
  subst h1 h2 h3 h4 h5 h6 h7
  obtain rfl : n = n' := e1.trans e2.symm
  have HI : Hid (∀ w1, Fr (fun _ => False) w w1 → Calls Try.prog 99 #[.slice A n c, .slice A' n c'] w1 fun e w' => e = .returned (.bool true) ∧ ∃ m, w' = w1.drewN m) := fun w1 hf => ints29_q w1 items A A' c c' n e1 (by omega) (S1.out.quiet hf) (S2.out.quiet hf)
  have HC : Hid (∀ w1, Fr (fun _ => False) w w1 → Calls Try.prog 64 #[.agg #[.int .i64 k.num, .int .i64 k.kind, .int .i64 k.by_, .int .i64 k.dl, .int .i64 k.to_, .int .i64 k.want, .int .u64 (k.pr : Int), .int .u64 (k.rs : Int), .int .u64 (k.st : Int), .int .i64 k.of_, .slice k.A k.n k.c], .agg #[.int .i64 k'.num, .int .i64 k'.kind, .int .i64 k'.by_, .int .i64 k'.dl, .int .i64 k'.to_, .int .i64 k'.want, .int .u64 (k'.pr : Int), .int .u64 (k'.rs : Int), .int .u64 (k'.st : Int), .int .i64 k'.of_, .slice k'.A k'.n k'.c]] w1 fun e w' => e = .returned (.bool true) ∧ Fr (fun _ => False) w1 w') := fun w1 hf => contractLike29_any w1 k k' HK.out (K1.out.quiet hf) (K2.out.quiet hf)
  obtain ⟨str, hstr⟩ : ∃ str, strOf txt = str := ⟨_, rfl⟩
  rw [hstr]
  obtain ⟨num2, kind2, by2, dl2, to2, want2, pr2, rs2, st2, of2, X2, n2, c2, es2⟩ := k
  obtain ⟨num3, kind3, by3, dl3, to3, want3, pr3, rs3, st3, of3, X3, n3, c3, es3⟩ := k'
  simp only at HC ⊢
  clear e1 e2 hle S1 S2 K1 K2 HK ha hb hstr
  go_enter Try.func51, Try.ntmps51
  go_wp2_with fail
  refine (HI.out _ (by (repeat (first | with_reducible exact Fr.refl _ _ | with_reducible assumption | with_reducible refine Fr.drew ?_ | with_reducible refine Fr.drewN ?_ _ | with_reducible refine Fr.alloc ?_ _ | with_reducible refine Fr.setIn ?_ (by first | exact Or.inl rfl | exact Or.inr (by simp; done) | exact Or.inr (by simp; omega) | exact Or.inr (by omega)) _)))).mono ?_
  rintro e w1 ⟨rfl, m, rfl⟩
  go_wp2_with fail
  refine (HC.out _ (by (repeat (first | with_reducible exact Fr.refl _ _ | with_reducible assumption | with_reducible refine Fr.drew ?_ | with_reducible refine Fr.drewN ?_ _ | with_reducible refine Fr.alloc ?_ _ | with_reducible refine Fr.setIn ?_ (by first | exact Or.inl rfl | exact Or.inr (by simp; done) | exact Or.inr (by simp; omega) | exact Or.inr (by omega)) _)))).mono ?_
  rintro e w1 ⟨rfl, hf⟩
  have HF : Hid (Fr (fun _ => False) w w1) := Fr.trans (by (repeat (first | with_reducible exact Fr.refl _ _ | with_reducible assumption | with_reducible refine Fr.drew ?_ | with_reducible refine Fr.drewN ?_ _ | with_reducible refine Fr.alloc ?_ _ | with_reducible refine Fr.setIn ?_ (by first | exact Or.inl rfl | exact Or.inr (by simp; done) | exact Or.inr (by simp; omega) | exact Or.inr (by omega)) _))) hf
  clear hf
  go_wp2_with fail
  go_ret
  exact ⟨rfl, HF.out⟩
set_option linter.unusedVariables false
set_option linter.unusedSimpArgs false
set_option maxHeartbeats 4000000 in
set_option maxRecDepth 8000 in
theorem commandLike29_any (w : World) (a b : KC) (hl : a.like b) (ha : a.at_ w) (hb : b.at_ w) :
    Calls Try.prog 38 #[.agg #[.int .i64 a.id, .int .i64 a.kind, .string (strOf a.name), .int .i64 a.to_, .int .u64 (a.co : Int), .int .i64 a.item, .int .i64 a.num, .int .i64 a.of_, .int .i64 a.e.acc, .int .i64 a.e.item, .int .u64 (a.e.co : Int), .int .u64 (a.e.pr : Int), .slice a.e.A a.e.n a.e.c, .int .i64 a.k.num, .int .i64 a.k.kind, .int .i64 a.k.by_, .int .i64 a.k.dl, .int .i64 a.k.to_, .int .i64 a.k.want, .int .u64 (a.k.pr : Int), .int .u64 (a.k.rs : Int), .int .u64 (a.k.st : Int), .int .i64 a.k.of_, .slice a.k.A a.k.n a.k.c], .agg #[.int .i64 b.id, .int .i64 b.kind, .string (strOf b.name), .int .i64 b.to_, .int .u64 (b.co : Int), .int .i64 b.item, .int .i64 b.num, .int .i64 b.of_, .int .i64 b.e.acc, .int .i64 b.e.item, .int .u64 (b.e.co : Int), .int .u64 (b.e.pr : Int), .slice b.e.A b.e.n b.e.c, .int .i64 b.k.num, .int .i64 b.k.kind, .int .i64 b.k.by_, .int .i64 b.k.dl, .int .i64 b.k.to_, .int .i64 b.k.want, .int .u64 (b.k.pr : Int), .int .u64 (b.k.rs : Int), .int .u64 (b.k.st : Int), .int .i64 b.k.of_, .slice b.k.A b.k.n b.k.c]] w fun e w' => e = .returned (.bool true) ∧ Fr (fun _ => False) w w' := by
  have E1 := hide ha.e
  have E2 := hide hb.e
  have K1 := hide ha.k
  have K2 := hide hb.k
  have HLE := hide hl.e
  have HLK := hide hl.k
  obtain ⟨rid, kind, name, to_, co, item, num, of_, e, k⟩ := a
  obtain ⟨rid', kind', name', to_', co', item', num', of_', e', k'⟩ := b
  obtain ⟨h1, h2, h3, h4, h5, h6, h7, h8, -, -⟩ := hl
  simp only at h1 h2 h3 h4 h5 h6 h7 h8 E1 E2 K1 K2 HLE HLK ⊢
  subst h1 h2 h3 h4 h5 h6 h7 h8
  have HE : Hid (∀ w1, Fr (fun _ => False) w w1 → Calls Try.prog 63 #[.agg #[.int .i64 e.acc, .int .i64 e.item, .int .u64 (e.co : Int), .int .u64 (e.pr : Int), .slice e.A e.n e.c], .agg #[.int .i64 e'.acc, .int .i64 e'.item, .int .u64 (e'.co : Int), .int .u64 (e'.pr : Int), .slice e'.A e'.n e'.c]] w1 fun e w' => e = .returned (.bool true) ∧ Fr (fun _ => False) w1 w') := fun w1 hf => entryLike29_any w1 e e' HLE.out (E1.out.quiet hf) (E2.out.quiet hf)
  have HC : Hid (∀ w1, Fr (fun _ => False) w w1 → Calls Try.prog 64 #[.agg #[.int .i64 k.num, .int .i64 k.kind, .int .i64 k.by_, .int .i64 k.dl, .int .i64 k.to_, .int .i64 k.want, .int .u64 (k.pr : Int), .int .u64 (k.rs : Int), .int .u64 (k.st : Int), .int .i64 k.of_, .slice k.A k.n k.c], .agg #[.int .i64 k'.num, .int .i64 k'.kind, .int .i64 k'.by_, .int .i64 k'.dl, .int .i64 k'.to_, .int .i64 k'.want, .int .u64 (k'.pr : Int), .int .u64 (k'.rs : Int), .int .u64 (k'.st : Int), .int .i64 k'.of_, .slice k'.A k'.n k'.c]] w1 fun e w' => e = .returned (.bool true) ∧ Fr (fun _ => False) w1 w') := fun w1 hf => contractLike29_any w1 k k' HLK.out (K1.out.quiet hf) (K2.out.quiet hf)
  obtain ⟨str, hstr⟩ : ∃ str, strOf name = str := ⟨_, rfl⟩
  rw [hstr]
  obtain ⟨acc, ei, ec, ep, E, en, ecp, ews⟩ := e
  obtain ⟨acc', ei', ec', ep', E', en', ecp', ews'⟩ := e'
  obtain ⟨knum, kkind, kby, kdl, kto, kwant, kpr, krs, kst, kof, X, xn, xc, kes⟩ := k
  obtain ⟨knum', kkind', kby', kdl', kto', kwant', kpr', krs', kst', kof', X', xn', xc', kes'⟩ := k'
  simp only at HE HC ⊢
  clear E1 E2 K1 K2 HLE HLK ha hb hstr
  have HB0 : Hid (Bl ((w.alloc (.cells #[.int .i64 rid, .int .i64 kind, .string str, .int .i64 to_, .int .u64 (co : Int), .int .i64 item, .int .i64 num, .int .i64 of_, .int .i64 acc, .int .i64 ei, .int .u64 (ec : Int), .int .u64 (ep : Int), .slice E en ecp, .int .i64 knum, .int .i64 kkind, .int .i64 kby, .int .i64 kdl, .int .i64 kto, .int .i64 kwant, .int .u64 (kpr : Int), .int .u64 (krs : Int), .int .u64 (kst : Int), .int .i64 kof, .slice X xn xc] 31)).alloc (.cells #[.int .i64 rid, .int .i64 kind, .string str, .int .i64 to_, .int .u64 (co : Int), .int .i64 item, .int .i64 num, .int .i64 of_, .int .i64 acc', .int .i64 ei', .int .u64 (ec' : Int), .int .u64 (ep' : Int), .slice E' en' ecp', .int .i64 knum', .int .i64 kkind', .int .i64 kby', .int .i64 kdl', .int .i64 kto', .int .i64 kwant', .int .u64 (kpr' : Int), .int .u64 (krs' : Int), .int .u64 (kst' : Int), .int .i64 kof', .slice X' xn' xc'] 31)) w.heap.size 31 #[.int .i64 rid, .int .i64 kind, .string str, .int .i64 to_, .int .u64 (co : Int), .int .i64 item, .int .i64 num, .int .i64 of_, .int .i64 acc, .int .i64 ei, .int .u64 (ec : Int), .int .u64 (ep : Int), .slice E en ecp, .int .i64 knum, .int .i64 kkind, .int .i64 kby, .int .i64 kdl, .int .i64 kto, .int .i64 kwant, .int .u64 (kpr : Int), .int .u64 (krs : Int), .int .u64 (kst : Int), .int .i64 kof, .slice X xn xc]) := (Bl.new _ _ _).alloc _
  have HB1 : Hid (Bl ((w.alloc (.cells #[.int .i64 rid, .int .i64 kind, .string str, .int .i64 to_, .int .u64 (co : Int), .int .i64 item, .int .i64 num, .int .i64 of_, .int .i64 acc, .int .i64 ei, .int .u64 (ec : Int), .int .u64 (ep : Int), .slice E en ecp, .int .i64 knum, .int .i64 kkind, .int .i64 kby, .int .i64 kdl, .int .i64 kto, .int .i64 kwant, .int .u64 (kpr : Int), .int .u64 (krs : Int), .int .u64 (kst : Int), .int .i64 kof, .slice X xn xc] 31)).alloc (.cells #[.int .i64 rid, .int .i64 kind, .string str, .int .i64 to_, .int .u64 (co : Int), .int .i64 item, .int .i64 num, .int .i64 of_, .int .i64 acc', .int .i64 ei', .int .u64 (ec' : Int), .int .u64 (ep' : Int), .slice E' en' ecp', .int .i64 knum', .int .i64 kkind', .int .i64 kby', .int .i64 kdl', .int .i64 kto', .int .i64 kwant', .int .u64 (kpr' : Int), .int .u64 (krs' : Int), .int .u64 (kst' : Int), .int .i64 kof', .slice X' xn' xc'] 31)) (w.heap.size + 1) 31 #[.int .i64 rid, .int .i64 kind, .string str, .int .i64 to_, .int .u64 (co : Int), .int .i64 item, .int .i64 num, .int .i64 of_, .int .i64 acc', .int .i64 ei', .int .u64 (ec' : Int), .int .u64 (ep' : Int), .slice E' en' ecp', .int .i64 knum', .int .i64 kkind', .int .i64 kby', .int .i64 kdl', .int .i64 kto', .int .i64 kwant', .int .u64 (kpr' : Int), .int .u64 (krs' : Int), .int .u64 (kst' : Int), .int .i64 kof', .slice X' xn' xc']) := Bl.newAt (by simp)
  go_enter Try.func38, Try.ntmps38
  go_wp2_with fail
  refine (HE.out _ (by (repeat (first | with_reducible exact Fr.refl _ _ | with_reducible assumption | with_reducible refine Fr.drew ?_ | with_reducible refine Fr.drewN ?_ _ | with_reducible refine Fr.alloc ?_ _ | with_reducible refine Fr.setIn ?_ (by first | exact Or.inl rfl | exact Or.inr (by simp; done) | exact Or.inr (by simp; omega) | exact Or.inr (by omega)) _)))).mono ?_
  rintro x w1 ⟨rfl, hf⟩
  have HF : Hid (Fr (fun _ => False) w w1) := Fr.trans (by (repeat (first | with_reducible exact Fr.refl _ _ | with_reducible assumption | with_reducible refine Fr.drew ?_ | with_reducible refine Fr.drewN ?_ _ | with_reducible refine Fr.alloc ?_ _ | with_reducible refine Fr.setIn ?_ (by first | exact Or.inl rfl | exact Or.inr (by simp; done) | exact Or.inr (by simp; omega) | exact Or.inr (by omega)) _))) hf
  have e0 := HB0.out.fr hf (fun x => x)
  have e1 := HB1.out.fr hf (fun x => x)
  unfold Bl at e0 e1
  clear hf HB0 HB1
  go_wp2_with (first
    | (refine wpList_load_at rfl 29 _ rfl w.heap.size 13 rfl 31 _ #[.int .i64 knum, .int .i64 kkind, .int .i64 kby, .int .i64 kdl, .int .i64 kto, .int .i64 kwant, .int .u64 (kpr : Int), .int .u64 (krs : Int), .int .u64 (kst : Int), .int .i64 kof, .slice X xn xc] (0, 0) _ e0 Try.underlying29 rfl (by kernel_rfl) rfl ?_)
    | (refine wpList_load_at rfl 29 _ rfl (w.heap.size + 1) 13 rfl 31 _ #[.int .i64 knum', .int .i64 kkind', .int .i64 kby', .int .i64 kdl', .int .i64 kto', .int .i64 kwant', .int .u64 (kpr' : Int), .int .u64 (krs' : Int), .int .u64 (kst' : Int), .int .i64 kof', .slice X' xn' xc'] (0, 0) _ e1 Try.underlying29 rfl (by kernel_rfl) rfl ?_))
  clear e0 e1
  refine (HC.out _ HF.out).mono ?_
  rintro x w2 ⟨rfl, hf⟩
  have HF2 := hide (HF.out.trans hf)
  clear hf
  go_wp2_with fail
  go_ret
  exact ⟨rfl, HF2.out⟩
end Go.Proofs.Ytlcjhbemgagchaa
end

section
/-
  stream: Replies, the program's. (printed by pr_reps.py)
-/
namespace Go.Proofs.Ytlcjhbemgagchaa
open Go.RowKit
set_option linter.unusedVariables false
theorem clipRpl_any (w : World) (A : Option Addr) (n c : Nat) (hn : n ≤ c) (hc : c ≤ maxLen) :
    Calls Try.prog 49 #[.slice A n c] w fun e w' => e = .returned (.slice A n n) ∧ w = w' := by
  unfold maxLen at hc
  go_enter Try.func49, Try.ntmps49
  go_wp2
  go_ret
  exact ⟨rfl, rfl⟩
/-- DecodeReply's answer: the reply, in memory of its own; or nothing. -/
def RepN (bs : List Nat) (w : World) (e : Ending) (w' : World) : Prop := ∃ (q : RR) (er : Nat), e = .returned (.tuple #[.agg #[.int .i64 q.id, .int .i64 q.err, .int .i64 q.num, .int .u64 (q.co : Int), .slice q.A q.n q.c, .string (strOf q.txt), .int .u32 (q.bits : Int), .int .i64 q.k.num, .int .i64 q.k.kind, .int .i64 q.k.by_, .int .i64 q.k.dl, .int .i64 q.k.to_, .int .i64 q.k.want, .int .u64 (q.k.pr : Int), .int .u64 (q.k.rs : Int), .int .u64 (q.k.st : Int), .int .i64 q.k.of_, .slice q.k.A q.k.n q.k.c], .int .i64 (er : Int)]) ∧ Hid (RVer bs q (er : Int)) ∧ Hid (ROwn w w' q ∧ q.items.length ≤ 65536) ∧ Fr (fun _ => False) w w'
theorem zeroR_own (W w : World) : ROwn W w zeroR := ⟨by decide, ⟨none, Ow.nil_ _ _ _, fun x e => by cases e⟩, by decide, ⟨none, Ents.nil_ W w⟩⟩
theorem RepPost.n {bs : List Nat} {w w' : World} {e : Ending} (h : RepPost bs w e w') : RepN bs w e w' := by
  rcases h with ⟨h1, rfl, hf⟩ | ⟨h1, h2, rfl, hf⟩ | ⟨h1, c, h2, rfl, h3, hf⟩
  · exact ⟨zeroR, 3, rfl, .inl ⟨h1, rfl, rfl⟩, ⟨zeroR_own _ _, by decide⟩, hf⟩
  · exact ⟨zeroR, 270, rfl, .inr (.inl ⟨h1, h2, rfl, rfl⟩), ⟨zeroR_own _ _, by decide⟩, hf⟩
  · exact ⟨c, 0, rfl, .inr (.inr ⟨h1, rfl, h2⟩), ⟨h3, by have := (RR.ok_split h2.ok).2.2.2.2.1; omega⟩, hf⟩
theorem sl_rpl (w : World) (q : RR) (e : TypeId) : Sl (w.alloc (.cells (rcells q).toArray e)) 18 (some ⟨w.heap.size, 0, none⟩) 1 (rcells q) := by
  refine ⟨rfl, fun _ => ⟨w.heap.size, 0, rfl, fun j u hu => ?_⟩⟩
  have hb := Bl.new w e (rcells q).toArray
  rw [Nat.zero_add]
  exact hb.cell' (by rw [List.getElem?_toArray]; exact hu)
/-- The rest of a slice, a part of it, wherever it begins. -/
theorem Sl.rest8 {w : World} {n b o : Nat} {xs : List Nat} (h : Sl w 1 (some ⟨b, o, none⟩) n (xs.map bn)) {k : Nat} (hk : k ≤ n) : Sl w 1 (some ⟨b, o + k, none⟩) (n - k) ((xs.drop k).map bn) := by
  have hl : xs.length = n := by have := h.1; simpa using this
  have h1 := h.part hk (Nat.le_refl n)
  rw [← List.map_drop, ← List.map_take, List.take_of_length_le (by simp; omega)] at h1
  exact h1
theorem Sl.body8 {w : World} {n b o : Nat} {xs : List Nat} (h : Sl w 1 (some ⟨b, o, none⟩) n (xs.map bn)) {k L : Nat} (hk : k + 3 + L ≤ n) (hL : longS (xs.drop k) = L) : Sl w 1 (some ⟨b, o + (k + 3), none⟩) L ((bodyS xs k).map bn) := by
  have h1 := h.part (f := k + 3) (t := k + 3 + L) (by omega) hk
  rw [Nat.add_sub_cancel_left, ← List.map_drop, ← List.map_take] at h1
  unfold bodyS
  rw [hL]; exact h1
theorem drop_bytes {xs : List Nat} (h : ∀ x ∈ xs, x < 256) (k : Nat) : ∀ x ∈ xs.drop k, x < 256 := fun x hx => h x (List.mem_of_mem_drop hx)
theorem body_bytes {xs : List Nat} (h : ∀ x ∈ xs, x < 256) (k : Nat) : ∀ x ∈ bodyS xs k, x < 256 := fun x hx => h x (List.mem_of_mem_drop (List.mem_of_mem_take hx))
def RepsPost (bs : List Nat) (w : World) (e : Ending) (w' : World) : Prop :=
  ∃ (l : List RR) (u er : Nat) (B : Option Addr) (m d : Nat) (g : Option Nat), e = .returned (.tuple #[.slice B m d, .int .i64 (u : Int), .int .i64 (er : Int)]) ∧ Reps bs 0 l u er ∧ Rps w w' l B m d g ∧ Fr (fun _ => False) w w'
set_option maxHeartbeats 1000000 in
set_option maxRecDepth 8000 in
attribute [-go_sem] Go.Instr.loadAt Go.Instr.storeAt in
theorem replies_wide (w : World) (bs : List Nat) (b0 o0 : Nat) (A : Option Addr) (n c : Nat) (hn : n = bs.length) (hb : n ≤ 137438953472) (hc : n ≤ c) (hc2 : c ≤ maxLen) (h256 : ∀ x ∈ bs, x < 256) (hA : Sl w 1 A n (bs.map bn)) :
    Calls Try.prog 22 #[.slice A n c] w (RepsPost bs w) := by
  obtain ⟨j0, hj, hj0, hj1, hj2⟩ := info_parts infoRpl
  unfold maxLen at hc2
  have HA := hide (fun w' (hf : Fr (fun _ => False) w w') => hA.below hf (fun _ _ => id))
  have Hn := hide hn
  have H256 := hide h256
  clear hA hn h256
  go_enter Try.func22, Try.ntmps22
  go_wp2_with fail
  go_loopw [5, 6] (fun v5 v6 wr => ∃ (k : Nat) (l : List RR) (B : Option Addr) (m d : Nat) (g : Option Nat), v5 = .slice B m d ∧ v6 = .int .i64 (k : Int) ∧ k ≤ n ∧ Hid (ToldR bs k l) ∧ Hid (Rps w wr l B m d g) ∧ Hid (Fr (fun _ => False) w wr)) (fun _ v _ => n - (intOf v).toNat)
  case atStart => exact ⟨0, [], none, 0, 0, none, rfl, rfl, Nat.zero_le _, .nil, Rps.nil_ _ _, Fr.refl _ _⟩
  case round =>
    obtain ⟨k, l, B, m, d, g, rfl, rfl, hk, hT, hR, hF⟩ := hrel
    obtain ⟨wo, rfl⟩ : ∃ z, z = wr := ⟨_, rfl⟩
    have hcap := hR.out.ow.cap
    have hcl := fun w' => clipRpl_any w' B m d hcap.1 hcap.2
    have hRc : Hid (Rps w wo l B m m g) := ⟨hR.out.len, hR.out.ow.clip, hR.out.new, hR.out.own, hR.out.ap⟩
    have hml : m ≤ 45812984491 := by have := hT.out.len; have := hR.out.len; have := Hn.out; omega
    clear hcap
    by_cases hsh : n < k + 3
    · have hD : Hid (Reps bs 0 l k 0) := by
        have := hT.out.reps (.short (by have := Hn.out; omega))
        rwa [List.append_nil] at this
      have b1 : ¬ (3 : Int) ≤ (n : Int) - (k : Int) := by omega
      have iw : IntKind.i64.wrap ((n : Int) - (k : Int)) = (n : Int) - (k : Int) := IntWalk.i64_in _ (by omega)
      clear hsh
      go_wp2_with fail
      refine (hcl _).mono ?_
      rintro e w' ⟨rfl, rfl⟩
      go_wp2_with fail
      go_ret3
      exact ⟨l, k, 0, B, m, m, g, rfl, hD.out, hRc.out, hF.out⟩
    · have b1 : (3 : Int) ≤ (n : Int) - (k : Int) := by omega
      have iw : IntKind.i64.wrap ((n : Int) - (k : Int)) = (n : Int) - (k : Int) := IntWalk.i64_in _ (by omega)
      have hA := HA.out wo hF.out
      obtain ⟨b, o, rfl, -⟩ := hA.byte (k := 0) (by omega)
      have hAk := hA.rest8 hk
      have hlg := long_any wo (bs.drop k) _ (n - k) (c - k) (by omega) hAk (drop_bytes H256.out k)
      obtain ⟨L, hL⟩ : ∃ L, longS (bs.drop k) = L := ⟨_, rfl⟩
      rw [hL] at hlg
      have HL := hide hL
      have k1 : (0 : Int) ≤ (k : Int) := by omega
      have k2 : (k : Int) ≤ (n : Int) := by omega
      have hS3 := fun (h : k + 3 + L ≤ n) => hA.body8 h HL.out
      have HS3 := hide hS3
      have hRw := fun w' (hf : Fr (fun _ => False) wo w') => hRc.out.quiet hf
      have HRw := hide hRw
      clear hL hA hAk hS3 hRw
      go_wp2_with fail
      refine hlg.mono ?_
      rintro e w' ⟨rfl, m1, rfl⟩
      have hf1 : Fr (fun _ => False) wo (wo.drewN m1) := (Fr.refl _ _).drewN m1
      obtain ⟨w1, hw1⟩ : ∃ w1, wo.drewN m1 = w1 := ⟨_, rfl⟩
      rw [hw1] at hf1
      have hf01 := hF.out.trans hf1
      rw [hw1]
      clear hw1 hlg
      by_cases h2 : 65536 < L
      · have hD : Hid (Reps bs 0 l k 290) := by
          have := hT.out.reps (.long (k := k) (by have := Hn.out; omega) (by rw [HL.out]; exact h2))
          rwa [List.append_nil] at this
        have b2 : (65536 : Int) < (L : Int) := by omega
        have HR1 := hide (HRw.out w1 hf1)
        have HF1 := hide hf01
        clear h2 hf1 hf01
        go_wp2_with fail
        refine (hcl _).mono ?_
        rintro e w' ⟨rfl, rfl⟩
        go_wp2_with fail
        go_ret3
        exact ⟨l, k, 290, B, m, m, g, rfl, hD.out, HR1.out, HF1.out⟩
      · have b2 : ¬ (65536 : Int) < (L : Int) := by omega
        have iw2 : IntKind.i64.wrap ((n : Int) - (k : Int) - 3) = (n : Int) - (k : Int) - 3 := IntWalk.i64_in _ (by omega)
        by_cases h3 : n < k + 3 + L
        · have hD : Hid (Reps bs 0 l k 0) := by
            have := hT.out.reps (.half (k := k) (by have := Hn.out; omega) (by rw [HL.out]; omega) (by rw [HL.out]; have := Hn.out; omega))
            rwa [List.append_nil] at this
          have b3 : (n : Int) - (k : Int) - 3 < (L : Int) := by omega
          have HR1 := hide (HRw.out w1 hf1)
          have HF1 := hide hf01
          clear h2 h3 hf1 hf01
          go_wp2_with fail
          refine (hcl _).mono ?_
          rintro e w' ⟨rfl, rfl⟩
          go_wp2_with fail
          go_ret3
          exact ⟨l, k, 0, B, m, m, g, rfl, hD.out, HR1.out, HF1.out⟩
        · have b3 : ¬ (n : Int) - (k : Int) - 3 < (L : Int) := by omega
          have iw3 : IntKind.i64.wrap ((k : Int) + 3) = (k : Int) + 3 := IntWalk.i64_in _ (by omega)
          have iw4 : IntKind.i64.wrap ((k : Int) + 3 + (L : Int)) = (k : Int) + 3 + (L : Int) := IntWalk.i64_in _ (by omega)
          have hdec := fun (o' c' : Nat) (h : Sl w1 1 (some ⟨b, o', none⟩) L ((bodyS bs k).map bn)) => DecodeReply_any w1 (bodyS bs k) (some ⟨b, o', none⟩) L c' (by unfold bodyS; rw [HL.out]; simp; have := Hn.out; omega) (by omega) (body_bytes H256.out k) h
          have hS1 := (HS3.out (by omega)).below hf1 (fun _ _ => id)
          have HF1 := hide hf1
          have HF01 := hide hf01
          have h3' : k + 3 + L ≤ n := by omega
          have h2' : L ≤ 65536 := by omega
          clear h2 h3 hf1 hf01
          by_cases hz : c = k + 3
          · obtain rfl : L = 0 := by omega
            have hbz : bodyS bs k = [] := by unfold bodyS; rw [HL.out]; rfl
            have hdec := hdec o 0 (by rw [hbz]; exact Sl.nil_ _ _ _)
            obtain rfl : c = k + 3 := hz
            clear hS1
            go_wp2_with fail
            refine hdec.mono ?_
            intro v w2 hp
            obtain ⟨q, er, rfl, hV, hQ, hf2⟩ := hp.n
            clear hp hdec
            have p3 := put_rep (w := w2) q
            have hbx := box_new (w := w2) tRpl #[.int .i64 0, .int .i64 0, .int .i64 0, .int .u64 0, .slice none 0 0, .string ⟨#[]⟩, .int .u32 0, .int .i64 0, .int .i64 0, .int .i64 0, .int .i64 0, .int .i64 0, .int .i64 0, .int .u64 0, .int .u64 0, .int .u64 0, .int .i64 0, .slice none 0 0] #[.int .i64 q.id, .int .i64 q.err, .int .i64 q.num, .int .u64 (q.co : Int), .slice q.A q.n q.c, .string (strOf q.txt), .int .u32 (q.bits : Int), .int .i64 q.k.num, .int .i64 q.k.kind, .int .i64 q.k.by_, .int .i64 q.k.dl, .int .i64 q.k.to_, .int .i64 q.k.want, .int .u64 (q.k.pr : Int), .int .u64 (q.k.rs : Int), .int .u64 (q.k.st : Int), .int .i64 q.k.of_, .slice q.k.A q.k.n q.k.c]
            obtain ⟨w3, hw3⟩ : ∃ w3, (w2.alloc (.cells #[.int .i64 0, .int .i64 0, .int .i64 0, .int .u64 0, .slice none 0 0, .string ⟨#[]⟩, .int .u32 0, .int .i64 0, .int .i64 0, .int .i64 0, .int .i64 0, .int .i64 0, .int .i64 0, .int .u64 0, .int .u64 0, .int .u64 0, .int .i64 0, .slice none 0 0] tRpl)).setRow w2.heap.size #[.int .i64 q.id, .int .i64 q.err, .int .i64 q.num, .int .u64 (q.co : Int), .slice q.A q.n q.c, .string (strOf q.txt), .int .u32 (q.bits : Int), .int .i64 q.k.num, .int .i64 q.k.kind, .int .i64 q.k.by_, .int .i64 q.k.dl, .int .i64 q.k.to_, .int .i64 q.k.want, .int .u64 (q.k.pr : Int), .int .u64 (q.k.rs : Int), .int .u64 (q.k.st : Int), .int .i64 q.k.of_, .slice q.k.A q.k.n q.k.c] = w3 := ⟨_, rfl⟩
            rw [hw3] at hbx p3
            have hld := box_rep q hbx.1
            have hF3 := hbx.2
            by_cases her : er = 0
            · subst her
              have hT3' := hT.out.snoc (by rw [HL.out]; omega) (by rw [HL.out]; have := Hn.out; omega) hV.out
              rw [HL.out] at hT3'
              have hT3 := hide hT3'
              clear hT3'
              have hF13 := HF1.out.trans (hf2.trans hF3)
              have hR3 := hR.out.quiet hF13
              have hO3 := hR3.ow
              have H3 := hide (And.intro hR3 (And.intro (HF01.out.trans (hf2.trans hF3)) (And.intro hF13 hf2)))
              have hsz3 : wo.heap.size ≤ w3.heap.size := hF13.size
              have hF3' := hF3
              clear hbx hf2 hV hF3 hF13 hR3
              go_wp2_with (at_builtin; go_loud (refine wpList_append_ow _ rfl _ _ 49 rfl tRpl j0 (.agg #[.int .i64 0, .int .i64 0, .int .i64 0, .int .u64 0, .slice none 0 0, .string ⟨#[]⟩, .int .u32 0, .int .i64 0, .int .i64 0, .int .i64 0, .int .i64 0, .int .i64 0, .int .i64 0, .int .u64 0, .int .u64 0, .int .u64 0, .int .i64 0, .slice none 0 0]) 18 184 Try.underlying49 hj hj0 hj1 hj2 rfl (by decide) _ _ _ _ _ rfl (hO3.fr (S := fun _ => False) ((Fr.refl _ _).alloc _) (fun _ _ => id)) _ _ _ (rcells q) rfl (sl_rpl _ _ _) (rcells_one q) (by unfold maxLen; omega) (by omega) ?_))
              intro A4 c4 w4 g4 hO4 hf4 hg4
              clear hO3
              obtain ⟨hR3, hF03, hF13, hf2⟩ := H3.out
              have hal : Fr (fun _ => False) w3 (w3.alloc (.cells (rcells q).toArray tRpl)) := (Fr.refl _ _).alloc _
              have hR4 := Rps.app (hR.out.quiet HF1.out) (hR3.quiet hal) HF01.out.size ((hQ.out.1.quiet hF3').quiet hal) hQ.out.2 hO4 hf4 (hg4.imp id fun ⟨x, e, h⟩ => ⟨x, e, by have := hF03.size; first | omega | (simp at h; omega)⟩)
              have hgn := hR.out.new
              have HR4 := hide hR4
              have HF4 : Hid (Fr (fun _ => False) w w4) := (hF03.trans hal).comp hf4 fun i hi e => by have := hgn i e.symm; omega
              clear hO4 hf4 hg4 hR3 hF03 hF13 hf2 hR4 hal
              go_wp2_with fail
              exact ⟨⟨k + 3 + 0, l ++ [q], A4, m + 1, c4, g4, rfl, by first | rfl | (congr 1; done) | (congr 1; omega), h3', hT3, HR4, HF4⟩, by simp [intOf]; omega⟩
            · have hD : Hid (Reps bs 0 l k 290) := by
                have := hT.out.reps (.bad (k := k) (er := (er : Int)) (by rw [HL.out]; omega) (by rw [HL.out]; have := Hn.out; omega) hV.out (by omega))
                rwa [List.append_nil] at this
              have b4 : ¬ (er : Int) = 0 := by omega
              have HR3 := hide (hR.out.quiet (HF1.out.trans (hf2.trans hF3)))
              have HF3 := hide (HF01.out.trans (hf2.trans hF3))
              have hcm : Hid (Rps w w3 l B m m g) := ⟨HR3.out.len, HR3.out.ow.clip, HR3.out.new, HR3.out.own, HR3.out.ap⟩
              clear hld hbx hf2 hF3 hV her
              go_wp2_with fail
              refine (hcl _).mono ?_
              rintro e w' ⟨rfl, rfl⟩
              go_wp2_with fail
              go_ret3
              exact ⟨l, k, 290, B, m, m, g, rfl, hD.out, hcm.out, HF3.out⟩
          · have hz2 : ¬ (c : Int) = (k : Int) + 3 := by omega
            have hdec := hdec (o + (k + 3)) (c - (k + 3)) hS1
            clear hS1
            go_wp2_with fail
            refine hdec.mono ?_
            intro v w2 hp
            obtain ⟨q, er, rfl, hV, hQ, hf2⟩ := hp.n
            clear hp hdec
            have p3 := put_rep (w := w2) q
            have hbx := box_new (w := w2) tRpl #[.int .i64 0, .int .i64 0, .int .i64 0, .int .u64 0, .slice none 0 0, .string ⟨#[]⟩, .int .u32 0, .int .i64 0, .int .i64 0, .int .i64 0, .int .i64 0, .int .i64 0, .int .i64 0, .int .u64 0, .int .u64 0, .int .u64 0, .int .i64 0, .slice none 0 0] #[.int .i64 q.id, .int .i64 q.err, .int .i64 q.num, .int .u64 (q.co : Int), .slice q.A q.n q.c, .string (strOf q.txt), .int .u32 (q.bits : Int), .int .i64 q.k.num, .int .i64 q.k.kind, .int .i64 q.k.by_, .int .i64 q.k.dl, .int .i64 q.k.to_, .int .i64 q.k.want, .int .u64 (q.k.pr : Int), .int .u64 (q.k.rs : Int), .int .u64 (q.k.st : Int), .int .i64 q.k.of_, .slice q.k.A q.k.n q.k.c]
            obtain ⟨w3, hw3⟩ : ∃ w3, (w2.alloc (.cells #[.int .i64 0, .int .i64 0, .int .i64 0, .int .u64 0, .slice none 0 0, .string ⟨#[]⟩, .int .u32 0, .int .i64 0, .int .i64 0, .int .i64 0, .int .i64 0, .int .i64 0, .int .i64 0, .int .u64 0, .int .u64 0, .int .u64 0, .int .i64 0, .slice none 0 0] tRpl)).setRow w2.heap.size #[.int .i64 q.id, .int .i64 q.err, .int .i64 q.num, .int .u64 (q.co : Int), .slice q.A q.n q.c, .string (strOf q.txt), .int .u32 (q.bits : Int), .int .i64 q.k.num, .int .i64 q.k.kind, .int .i64 q.k.by_, .int .i64 q.k.dl, .int .i64 q.k.to_, .int .i64 q.k.want, .int .u64 (q.k.pr : Int), .int .u64 (q.k.rs : Int), .int .u64 (q.k.st : Int), .int .i64 q.k.of_, .slice q.k.A q.k.n q.k.c] = w3 := ⟨_, rfl⟩
            rw [hw3] at hbx p3
            have hld := box_rep q hbx.1
            have hF3 := hbx.2
            by_cases her : er = 0
            · subst her
              have hT3' := hT.out.snoc (by rw [HL.out]; omega) (by rw [HL.out]; have := Hn.out; omega) hV.out
              rw [HL.out] at hT3'
              have hT3 := hide hT3'
              clear hT3'
              have hF13 := HF1.out.trans (hf2.trans hF3)
              have hR3 := hR.out.quiet hF13
              have hO3 := hR3.ow
              have H3 := hide (And.intro hR3 (And.intro (HF01.out.trans (hf2.trans hF3)) (And.intro hF13 hf2)))
              have hsz3 : wo.heap.size ≤ w3.heap.size := hF13.size
              have hF3' := hF3
              clear hbx hf2 hV hF3 hF13 hR3
              go_wp2_with (at_builtin; go_loud (refine wpList_append_ow _ rfl _ _ 49 rfl tRpl j0 (.agg #[.int .i64 0, .int .i64 0, .int .i64 0, .int .u64 0, .slice none 0 0, .string ⟨#[]⟩, .int .u32 0, .int .i64 0, .int .i64 0, .int .i64 0, .int .i64 0, .int .i64 0, .int .i64 0, .int .u64 0, .int .u64 0, .int .u64 0, .int .i64 0, .slice none 0 0]) 18 184 Try.underlying49 hj hj0 hj1 hj2 rfl (by decide) _ _ _ _ _ rfl (hO3.fr (S := fun _ => False) ((Fr.refl _ _).alloc _) (fun _ _ => id)) _ _ _ (rcells q) rfl (sl_rpl _ _ _) (rcells_one q) (by unfold maxLen; omega) (by omega) ?_))
              intro A4 c4 w4 g4 hO4 hf4 hg4
              clear hO3
              obtain ⟨hR3, hF03, hF13, hf2⟩ := H3.out
              have hal : Fr (fun _ => False) w3 (w3.alloc (.cells (rcells q).toArray tRpl)) := (Fr.refl _ _).alloc _
              have hR4 := Rps.app (hR.out.quiet HF1.out) (hR3.quiet hal) HF01.out.size ((hQ.out.1.quiet hF3').quiet hal) hQ.out.2 hO4 hf4 (hg4.imp id fun ⟨x, e, h⟩ => ⟨x, e, by have := hF03.size; first | omega | (simp at h; omega)⟩)
              have hgn := hR.out.new
              have HR4 := hide hR4
              have HF4 : Hid (Fr (fun _ => False) w w4) := (hF03.trans hal).comp hf4 fun i hi e => by have := hgn i e.symm; omega
              clear hO4 hf4 hg4 hR3 hF03 hF13 hf2 hR4 hal
              go_wp2_with fail
              exact ⟨⟨k + 3 + L, l ++ [q], A4, m + 1, c4, g4, rfl, by first | rfl | (congr 1; done) | (congr 1; omega), h3', hT3, HR4, HF4⟩, by simp [intOf]; omega⟩
            · have hD : Hid (Reps bs 0 l k 290) := by
                have := hT.out.reps (.bad (k := k) (er := (er : Int)) (by rw [HL.out]; omega) (by rw [HL.out]; have := Hn.out; omega) hV.out (by omega))
                rwa [List.append_nil] at this
              have b4 : ¬ (er : Int) = 0 := by omega
              have HR3 := hide (hR.out.quiet (HF1.out.trans (hf2.trans hF3)))
              have HF3 := hide (HF01.out.trans (hf2.trans hF3))
              have hcm : Hid (Rps w w3 l B m m g) := ⟨HR3.out.len, HR3.out.ow.clip, HR3.out.new, HR3.out.own, HR3.out.ap⟩
              clear hld hbx hf2 hF3 hV her
              go_wp2_with fail
              refine (hcl _).mono ?_
              rintro e w' ⟨rfl, rfl⟩
              go_wp2_with fail
              go_ret3
              exact ⟨l, k, 290, B, m, m, g, rfl, hD.out, hcm.out, HF3.out⟩
theorem replies_any (w : World) (bs : List Nat) (b0 o0 : Nat) (A : Option Addr) (n c : Nat) (hn : n = bs.length) (hb : n ≤ 2097152) (hc : n ≤ c) (hc2 : c ≤ maxLen) (h256 : ∀ x ∈ bs, x < 256) (hA : Sl w 1 A n (bs.map bn)) :
    Calls Try.prog 22 #[.slice A n c] w (RepsPost bs w) :=
  replies_wide w bs b0 o0 A n c hn (Nat.le_trans hb (by decide)) hc hc2 h256 hA
end Go.Proofs.Ytlcjhbemgagchaa
end
