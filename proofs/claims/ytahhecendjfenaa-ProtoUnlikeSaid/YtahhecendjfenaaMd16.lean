/-
  Texts merged into one, to keep the claim small: PrF, PrG.
-/
import Derived.Laws.Rows
import Derived.Test.YtahhecendjfenaaMd15
section
/-
  proto's law: contract and reply, where both are the same; markedContract.
-/
namespace Go.Proofs.Ytahhecendjfenaa
open Go.RowKit
set_option linter.unusedVariables false
set_option linter.unusedSimpArgs false
theorem LEr.row {W w : World} {es : List ER} {L : Option Addr} {N cl : Nat} {rs : List ER} {g : Option Nat} {more : List Value} (h : LEr W w es L N cl rs g more) {i : Nat} (hi : i < rs.length) : ∃ b o, L = some ⟨b, o, none⟩ ∧ ∀ j u, (rs[i].cells)[j]? = some u → w.cell? ⟨b, o + i * 5 + j, none⟩ = some u := by
  have hat : ∀ j u, (rs[i].cells)[j]? = some u → (rs.flatMap ER.cells ++ more)[i * 5 + j]? = some u := fun j u hu => by
    have hj : j < 5 := by
      rcases Nat.lt_or_ge j 5 with h | h
      · exact h
      · rw [List.getElem?_eq_none (by rw [ER.cells_len]; exact h)] at hu; cases hu
    rw [List.getElem?_append_left (by rw [rows_len ER.cells 5 ER.cells_len]; omega), rows_get ER.cells 5 ER.cells_len _ _ _ hi hj]
    exact hu
  obtain ⟨b, o, hA, -, -⟩ := h.ow.look (hat 0 _ rfl)
  refine ⟨b, o, hA, fun j u hu => ?_⟩
  obtain ⟨b', o', hA', -, hc, -⟩ := h.ow.look (hat j u hu)
  rw [hA] at hA'
  cases hA'
  rwa [← Nat.add_assoc] at hc
theorem LEr.at_ {W w : World} {es : List ER} {L : Option Addr} {N cl : Nat} {rs : List ER} {g : Option Nat} {more : List Value} (h : LEr W w es L N cl rs g more) {r : ER} (hr : r ∈ rs) : r.at_ w := by
  obtain ⟨gi, hi⟩ := h.li r hr
  exact ⟨hi.sl, h.small r hr, hi.cap⟩
end Go.Proofs.Ytahhecendjfenaa
end

section
/-
  proto's law: contract and reply, where both are the same; markedContract. (printed by pr_like.py)
-/
namespace Go.Proofs.Ytahhecendjfenaa
open Go.RowKit
set_option linter.unusedVariables false
set_option linter.unusedSimpArgs false
abbrev tCon : TypeId := 28
abbrev tRep : TypeId := 30
structure CR.like (a b : CR) : Prop where
  num : a.num = b.num
  kind : a.kind = b.kind
  by_ : a.by_ = b.by_
  dl : a.dl = b.dl
  to_ : a.to_ = b.to_
  want : a.want = b.want
  pr : a.pr = b.pr
  rs : a.rs = b.rs
  st : a.st = b.st
  of_ : a.of_ = b.of_
  len : a.es.length = b.es.length
  es : ∀ i (h : i < a.es.length) (h' : i < b.es.length), (a.es[i]).like b.es[i]
/-- What is lent, as a contract. -/
def CR.lent (r : CR) (L : Option Addr) (cl : Nat) (rs : List ER) : CR := { r with A := L, c := cl, es := rs }
theorem LEr.con_like {W w : World} {r : CR} {L : Option Addr} {N cl : Nat} {rs : List ER} {g : Option Nat} {more : List Value} (h : LEr W w r.es L N cl rs g more) (hl : rs.length = r.es.length) : (r.lent L cl rs).like r :=
  ⟨rfl, rfl, rfl, rfl, rfl, rfl, rfl, rfl, rfl, rfl, hl, h.like⟩
theorem LEr.con_at {W w : World} {r : CR} {L : Option Addr} {cl : Nat} {rs : List ER} {g : Option Nat} {more : List Value} (h : LEr W w r.es L (r.n + 2) cl rs g more) (hl : rs.length = r.n) (hle : r.n ≤ 2513169434843) : (r.lent L cl rs).at_ w := by
  refine ⟨?_, hle, ?_, fun e he => h.at_ he⟩
  · have := (h.ow.take (k := r.n) (by omega)).sl
    rwa [List.take_left' (by rw [rows_len ER.cells 5 ER.cells_len, hl])] at this
  · have := h.ow.cap
    exact ⟨by have := this.1; show r.n ≤ cl; omega, by have := this.2; unfold maxLen at this; exact this⟩

set_option maxHeartbeats 4000000 in
set_option maxRecDepth 8000 in
theorem contractLike_any (w : World) (a b : CR) (hl : a.like b) (ha : a.at_ w) (hb : b.at_ w) :
    Calls Try.prog 48 #[.agg #[.int .i64 a.num, .int .i64 a.kind, .int .i64 a.by_, .int .i64 a.dl, .int .i64 a.to_, .int .i64 a.want, .int .u64 (a.pr : Int), .int .u64 (a.rs : Int), .int .u64 (a.st : Int), .int .i64 a.of_, .slice a.A a.n a.c], .agg #[.int .i64 b.num, .int .i64 b.kind, .int .i64 b.by_, .int .i64 b.dl, .int .i64 b.to_, .int .i64 b.want, .int .u64 (b.pr : Int), .int .u64 (b.rs : Int), .int .u64 (b.st : Int), .int .i64 b.of_, .slice b.A b.n b.c]] w fun e w' => e = .returned (.bool true) ∧ Fr (fun _ => False) w w' := by
  have e1 := ha.len
  have e2 := hb.len
  have e3 := hl.len
  have hle := ha.le
  have HA := hide ha
  have HB := hide hb
  have HL := hide hl.es
  obtain ⟨num, kind, by_, dl, to_, want, pr, rs, st, of_, A, n, c, es⟩ := a
  obtain ⟨num', kind', by_', dl', to_', want', pr', rs', st', of_', A', n', c', es'⟩ := b
  obtain ⟨h1, h2, h3, h4, h5, h6, h7, h8, h9, h10, -, -⟩ := hl
  simp only at h1 h2 h3 h4 h5 h6 h7 h8 h9 h10 e1 e2 e3 hle HA HB HL ⊢
  subst h1 h2 h3 h4 h5 h6 h7 h8 h9 h10
  obtain rfl : n = n' := e1.trans (e3.trans e2.symm)
  have E1 := hide e1
  have E2 := hide e2
  clear e1 e2 e3 ha hb
  have HB0 : Hid (Bl ((w.alloc (.cells #[.int .i64 num, .int .i64 kind, .int .i64 by_, .int .i64 dl, .int .i64 to_, .int .i64 want, .int .u64 (pr : Int), .int .u64 (rs : Int), .int .u64 (st : Int), .int .i64 of_, .slice A n c] tCon)).alloc (.cells #[.int .i64 num, .int .i64 kind, .int .i64 by_, .int .i64 dl, .int .i64 to_, .int .i64 want, .int .u64 (pr : Int), .int .u64 (rs : Int), .int .u64 (st : Int), .int .i64 of_, .slice A' n c'] tCon)) w.heap.size tCon #[.int .i64 num, .int .i64 kind, .int .i64 by_, .int .i64 dl, .int .i64 to_, .int .i64 want, .int .u64 (pr : Int), .int .u64 (rs : Int), .int .u64 (st : Int), .int .i64 of_, .slice A n c]) := (Bl.new _ _ _).alloc _
  have HB1 : Hid (Bl ((w.alloc (.cells #[.int .i64 num, .int .i64 kind, .int .i64 by_, .int .i64 dl, .int .i64 to_, .int .i64 want, .int .u64 (pr : Int), .int .u64 (rs : Int), .int .u64 (st : Int), .int .i64 of_, .slice A n c] tCon)).alloc (.cells #[.int .i64 num, .int .i64 kind, .int .i64 by_, .int .i64 dl, .int .i64 to_, .int .i64 want, .int .u64 (pr : Int), .int .u64 (rs : Int), .int .u64 (st : Int), .int .i64 of_, .slice A' n c'] tCon)) (w.heap.size + 1) tCon #[.int .i64 num, .int .i64 kind, .int .i64 by_, .int .i64 dl, .int .i64 to_, .int .i64 want, .int .u64 (pr : Int), .int .u64 (rs : Int), .int .u64 (st : Int), .int .i64 of_, .slice A' n c']) := Bl.newAt (by simp)
  have HF0 : Hid (Fr (fun _ => False) w ((w.alloc (.cells #[.int .i64 num, .int .i64 kind, .int .i64 by_, .int .i64 dl, .int .i64 to_, .int .i64 want, .int .u64 (pr : Int), .int .u64 (rs : Int), .int .u64 (st : Int), .int .i64 of_, .slice A n c] tCon)).alloc (.cells #[.int .i64 num, .int .i64 kind, .int .i64 by_, .int .i64 dl, .int .i64 to_, .int .i64 want, .int .u64 (pr : Int), .int .u64 (rs : Int), .int .u64 (st : Int), .int .i64 of_, .slice A' n c'] tCon))) := ((Fr.refl _ _).alloc _).alloc _
  go_enter Try.func48, Try.ntmps48
  go_wp2_with fail
  go_loopw [5] (fun i wr => ∃ (k : Nat), k ≤ n ∧ i = .int .i64 k ∧ Hid (Fr (fun _ => False) ((w.alloc (.cells #[.int .i64 num, .int .i64 kind, .int .i64 by_, .int .i64 dl, .int .i64 to_, .int .i64 want, .int .u64 (pr : Int), .int .u64 (rs : Int), .int .u64 (st : Int), .int .i64 of_, .slice A n c] tCon)).alloc (.cells #[.int .i64 num, .int .i64 kind, .int .i64 by_, .int .i64 dl, .int .i64 to_, .int .i64 want, .int .u64 (pr : Int), .int .u64 (rs : Int), .int .u64 (st : Int), .int .i64 of_, .slice A' n c'] tCon)) wr)) (fun i _ => n - (intOf i).toNat)
  case atStart => exact ⟨0, Nat.zero_le _, rfl, Fr.refl _ _⟩
  case round =>
    obtain ⟨wo, rfl⟩ : ∃ wo, wo = wr := ⟨_, rfl⟩
    obtain ⟨k, hk, rfl, HF⟩ := hrel
    obtain ⟨w0, hw0⟩ : ∃ w0, w0 = ((w.alloc (.cells #[.int .i64 num, .int .i64 kind, .int .i64 by_, .int .i64 dl, .int .i64 to_, .int .i64 want, .int .u64 (pr : Int), .int .u64 (rs : Int), .int .u64 (st : Int), .int .i64 of_, .slice A n c] tCon)).alloc (.cells #[.int .i64 num, .int .i64 kind, .int .i64 by_, .int .i64 dl, .int .i64 to_, .int .i64 want, .int .u64 (pr : Int), .int .u64 (rs : Int), .int .u64 (st : Int), .int .i64 of_, .slice A' n c'] tCon)) := ⟨_, rfl⟩
    rw [← hw0] at HB0 HB1 HF0 HF
    have Hw0 := hide hw0
    clear hw0
    have bx0 := (HB0.out.fr HF.out id).cell' (i := 10) rfl
    have bx1 := (HB1.out.fr HF.out id).cell' (i := 10) rfl
    by_cases hlt : k < n
    · have hkl : k < es.length := by rw [← (E1.out : n = es.length)]; exact hlt
      have hkl' : k < es'.length := by rw [← (E2.out : n = es'.length)]; exact hlt
      have hfo := HF0.out.trans HF.out
      obtain ⟨b, o, hA, hc⟩ := (HA.out.quiet hfo).row hkl
      obtain ⟨b', o', hA', hc'⟩ := (HB.out.quiet hfo).row hkl'
      simp only at hA hA' hc hc'
      have HE : Hid ((es[k]).at_ wo) := (HA.out.quiet hfo).es _ (List.getElem_mem hkl)
      have HE' : Hid ((es'[k]).at_ wo) := (HB.out.quiet hfo).es _ (List.getElem_mem hkl')
      have Hlike : Hid ((es[k]).like (es'[k])) := HL.out k hkl hkl'
      clear hfo
      obtain ⟨e, he⟩ : ∃ e, es[k] = e := ⟨_, rfl⟩
      obtain ⟨e', he'⟩ : ∃ e', es'[k] = e' := ⟨_, rfl⟩
      rw [he] at hc HE Hlike
      rw [he'] at hc' HE' Hlike
      clear he he'
      have HC : Hid (∀ w1, Fr (fun _ => False) wo w1 → Calls Try.prog 53 #[.agg #[.int .i64 e.acc, .int .i64 e.item, .int .u64 (e.co : Int), .int .u64 (e.pr : Int), .slice e.A e.n e.c], .agg #[.int .i64 e'.acc, .int .i64 e'.item, .int .u64 (e'.co : Int), .int .u64 (e'.pr : Int), .slice e'.A e'.n e'.c]] w1 fun x w' => x = .returned (.bool true) ∧ Fr (fun _ => False) w1 w') := fun w1 hf => entryLike_any w1 e e' Hlike.out (HE.out.quiet hf) (HE'.out.quiet hf)
      obtain ⟨acc, item, co, pq, X, xn, xc, ws⟩ := e
      obtain ⟨acc', item', co', pq', X', xn', xc', ws'⟩ := e'
      simp only at HC
      have d0 := hc 0 _ rfl
      rw [Nat.add_zero] at d0
      have d1 := hc 1 _ rfl
      have d2 := hc 2 _ rfl
      have d3 := hc 3 _ rfl
      have d4 := hc 4 _ rfl
      have q0 := hc' 0 _ rfl
      rw [Nat.add_zero] at q0
      have q1 := hc' 1 _ rfl
      have q2 := hc' 2 _ rfl
      have q3 := hc' 3 _ rfl
      have q4 := hc' 4 _ rfl
      subst hA hA'
      have i0 : (0 : Int) ≤ (k : Int) := by omega
      have i1 : (k : Int) < (n : Int) := by omega
      have i2 : IntKind.i64.wrap ((k : Int) + 1) = ((k + 1 : Nat) : Int) := by rw [IntWalk.i64_in _ (by omega)]; omega
      have Hlt := hide hlt
      clear hc hc' hkl hkl' hlt hk HE HE' Hlike HA HB HL HB0 HB1 HF0
      go_wp2_with fail
      go_region_held3 (fun w' => w'.cell? ⟨w.heap.size, 10, none⟩ = some (.slice (some ⟨b, o, none⟩) n c) ∧ w'.cell? ⟨w.heap.size + 1, 10, none⟩ = some (.slice (some ⟨b', o', none⟩) n c') ∧ w'.cell? ⟨b, o + k * 5, none⟩ = some (.int .i64 acc) ∧ w'.cell? ⟨b, o + k * 5 + 1, none⟩ = some (.int .i64 item) ∧ w'.cell? ⟨b, o + k * 5 + 2, none⟩ = some (.int .u64 (co : Int)) ∧ w'.cell? ⟨b, o + k * 5 + 3, none⟩ = some (.int .u64 (pq : Int)) ∧ w'.cell? ⟨b, o + k * 5 + 4, none⟩ = some (.slice X xn xc) ∧ w'.cell? ⟨b', o' + k * 5, none⟩ = some (.int .i64 acc') ∧ w'.cell? ⟨b', o' + k * 5 + 1, none⟩ = some (.int .i64 item') ∧ w'.cell? ⟨b', o' + k * 5 + 2, none⟩ = some (.int .u64 (co' : Int)) ∧ w'.cell? ⟨b', o' + k * 5 + 3, none⟩ = some (.int .u64 (pq' : Int)) ∧ w'.cell? ⟨b', o' + k * 5 + 4, none⟩ = some (.slice X' xn' xc')) (go_keep)
        ((go_at_call 53; refine (HC.out _ (by exact (Fr.refl (fun _ => False) _).drew)).mono ?_; rintro x w4 ⟨rfl, hf4⟩; have bx0y := (hf4.cell (World.block_lt_of_cell? wo _ bx0) id).trans bx0; have bx1y := (hf4.cell (World.block_lt_of_cell? wo _ bx1) id).trans bx1; have d0y := (hf4.cell (World.block_lt_of_cell? wo _ d0) id).trans d0; have d1y := (hf4.cell (World.block_lt_of_cell? wo _ d1) id).trans d1; have d2y := (hf4.cell (World.block_lt_of_cell? wo _ d2) id).trans d2; have d3y := (hf4.cell (World.block_lt_of_cell? wo _ d3) id).trans d3; have d4y := (hf4.cell (World.block_lt_of_cell? wo _ d4) id).trans d4; have q0y := (hf4.cell (World.block_lt_of_cell? wo _ q0) id).trans q0; have q1y := (hf4.cell (World.block_lt_of_cell? wo _ q1) id).trans q1; have q2y := (hf4.cell (World.block_lt_of_cell? wo _ q2) id).trans q2; have q3y := (hf4.cell (World.block_lt_of_cell? wo _ q3) id).trans q3; have q4y := (hf4.cell (World.block_lt_of_cell? wo _ q4) id).trans q4))
      have HF4 : Hid (Fr (fun _ => False) w0 w4) := HF.out.trans (Fr.trans ((Fr.refl _ _).drew) hf4)
      clear hf4 d0 d1 d2 d3 d4 q0 q1 q2 q3 q4 bx0 bx1 bx0y bx1y d0y d1y d2y d3y d4y q0y q1y q2y q3y q4y
      go_wp2_with fail
      have := Hlt.out
      exact ⟨⟨k + 1, by omega, by first | rfl | go_num, by rw [← Hw0.out]; exact HF4⟩, by simp [intOf]; try omega⟩
    · have HFe : Hid (Fr (fun _ => False) w wo) := HF0.out.trans HF.out
      go_wp2_with fail
      go_ret
      exact ⟨rfl, HFe.out⟩
structure RR.like (a b : RR) : Prop where
  id : a.id = b.id
  err : a.err = b.err
  num : a.num = b.num
  co : a.co = b.co
  items : a.items = b.items
  txt : a.txt = b.txt
  bits : a.bits = b.bits
  k : a.k.like b.k

theorem ER.like.ok {a b : ER} (h : a.like b) : a.ok = b.ok := by
  obtain ⟨h1, h2, h3, h4, h5⟩ := h
  unfold ER.ok; rw [h1, h2, h5]
theorem ER.like.form {a b : ER} (h : a.like b) : a.form = b.form := by
  obtain ⟨h1, h2, h3, h4, h5⟩ := h
  unfold ER.form ER.fl; rw [h1, h2, h3, h4, h5]
theorem CR.like.map {β : Type} {a b : CR} (h : a.like b) (f : ER → β) (hf : ∀ x y : ER, x.like y → f x = f y) : a.es.map f = b.es.map f :=
  List.ext_getElem (by simp [h.len]) fun i h1 h2 => by
    rw [List.getElem_map, List.getElem_map]
    exact hf _ _ (h.es i _ _)
theorem CR.like.ok {a b : CR} (h : a.like b) : a.ok = b.ok := by
  have e : ∀ l : List ER, l.all ER.ok = (l.map ER.ok).all (fun x => x) := fun l => by rw [List.all_map]; rfl
  unfold CR.ok CR.seven
  rw [e, e, h.map ER.ok (fun _ _ => ER.like.ok), h.len, h.num, h.kind, h.by_, h.dl, h.to_, h.want, h.of_]
theorem CR.like.form {a b : CR} (h : a.like b) : a.form = b.form := by
  unfold CR.form CR.fl
  rw [h.map ER.form (fun _ _ => ER.like.form), h.num, h.kind, h.by_, h.dl, h.to_, h.want, h.of_, h.pr, h.rs, h.st]
theorem CR.like.wf {a b : CR} (h : a.like b) (hb : b.wf) : a.wf := by
  refine ⟨by rw [h.pr]; exact hb.pr, by rw [h.rs]; exact hb.rs, by rw [h.st]; exact hb.st, fun e he => ?_⟩
  obtain ⟨i, hi, rfl⟩ := List.getElem_of_mem he
  have hi' : i < b.es.length := by rw [← h.len]; exact hi
  obtain ⟨h1, h2, h3, h4, h5⟩ := h.es i hi hi'
  have hw := hb.es _ (List.getElem_mem hi')
  exact ⟨by rw [h3]; exact hw.co, by rw [h4]; exact hw.pr⟩
theorem RR.like.ok {a b : RR} (h : a.like b) : a.ok = b.ok := by
  unfold RR.ok
  rw [h.id, h.err, h.num, h.items, h.txt, h.k.ok]
theorem RR.like.form {a b : RR} (h : a.like b) : a.form = b.form := by
  unfold RR.form RR.fl
  rw [h.id, h.err, h.num, h.co, h.items, h.txt, h.bits, h.k.form]
theorem RR.like.wf {a b : RR} (h : a.like b) (hb : b.wf) : a.wf := by
  refine ⟨by rw [h.co]; exact hb.co, by rw [h.bits]; exact hb.bits, h.k.wf hb.k, by rw [h.txt]; exact hb.txt⟩

set_option maxHeartbeats 4000000 in
set_option maxRecDepth 8000 in
theorem replyLike_any (w : World) (a b : RR) (hl : a.like b) (ha : a.at_ w) (hb : b.at_ w) :
    Calls Try.prog 15 #[.agg #[.int .i64 a.id, .int .i64 a.err, .int .i64 a.num, .int .u64 (a.co : Int), .slice a.A a.n a.c, .string (strOf a.txt), .int .u32 (a.bits : Int), .int .i64 a.k.num, .int .i64 a.k.kind, .int .i64 a.k.by_, .int .i64 a.k.dl, .int .i64 a.k.to_, .int .i64 a.k.want, .int .u64 (a.k.pr : Int), .int .u64 (a.k.rs : Int), .int .u64 (a.k.st : Int), .int .i64 a.k.of_, .slice a.k.A a.k.n a.k.c], .agg #[.int .i64 b.id, .int .i64 b.err, .int .i64 b.num, .int .u64 (b.co : Int), .slice b.A b.n b.c, .string (strOf b.txt), .int .u32 (b.bits : Int), .int .i64 b.k.num, .int .i64 b.k.kind, .int .i64 b.k.by_, .int .i64 b.k.dl, .int .i64 b.k.to_, .int .i64 b.k.want, .int .u64 (b.k.pr : Int), .int .u64 (b.k.rs : Int), .int .u64 (b.k.st : Int), .int .i64 b.k.of_, .slice b.k.A b.k.n b.k.c]] w fun e w' => e = .returned (.bool true) ∧ Fr (fun _ => False) w w' := by
  have e1 := ha.sl.ilen
  have e2 := hb.sl.ilen
  have hle := ha.le
  have S1 := hide ha.sl
  have S2 := hide hb.sl
  have K1 := hide ha.k
  have K2 := hide hb.k
  have HK := hide hl.k
  obtain ⟨id, err, num, co, A, n, c, items, txt, bits, k⟩ := a
  obtain ⟨id', err', num', co', A', n', c', items', txt', bits', k'⟩ := b
  obtain ⟨h1, h2, h3, h4, h5, h6, h7, -⟩ := hl
  simp only at h1 h2 h3 h4 h5 h6 h7 e1 e2 hle S1 S2 K1 K2 HK ⊢
  subst h1 h2 h3 h4 h5 h6 h7
  obtain rfl : n = n' := e1.trans e2.symm
  have HI : Hid (∀ w1, Fr (fun _ => False) w w1 → Calls Try.prog 47 #[.slice A n c, .slice A' n c'] w1 fun e w' => e = .returned (.bool true) ∧ ∃ m, w' = w1.drewN m) := fun w1 hf => ints_q w1 items A A' c c' n e1 (by omega) (S1.out.quiet hf) (S2.out.quiet hf)
  have HC : Hid (∀ w1, Fr (fun _ => False) w w1 → Calls Try.prog 48 #[.agg #[.int .i64 k.num, .int .i64 k.kind, .int .i64 k.by_, .int .i64 k.dl, .int .i64 k.to_, .int .i64 k.want, .int .u64 (k.pr : Int), .int .u64 (k.rs : Int), .int .u64 (k.st : Int), .int .i64 k.of_, .slice k.A k.n k.c], .agg #[.int .i64 k'.num, .int .i64 k'.kind, .int .i64 k'.by_, .int .i64 k'.dl, .int .i64 k'.to_, .int .i64 k'.want, .int .u64 (k'.pr : Int), .int .u64 (k'.rs : Int), .int .u64 (k'.st : Int), .int .i64 k'.of_, .slice k'.A k'.n k'.c]] w1 fun e w' => e = .returned (.bool true) ∧ Fr (fun _ => False) w1 w') := fun w1 hf => contractLike_any w1 k k' HK.out (K1.out.quiet hf) (K2.out.quiet hf)
  obtain ⟨str, hstr⟩ : ∃ str, strOf txt = str := ⟨_, rfl⟩
  rw [hstr]
  obtain ⟨num2, kind2, by2, dl2, to2, want2, pr2, rs2, st2, of2, X2, n2, c2, es2⟩ := k
  obtain ⟨num3, kind3, by3, dl3, to3, want3, pr3, rs3, st3, of3, X3, n3, c3, es3⟩ := k'
  simp only at HC ⊢
  clear e1 e2 hle S1 S2 K1 K2 HK ha hb hstr
  go_enter Try.func15, Try.ntmps15
  go_wp2_with fail
  refine (HI.out _ (by (repeat (first | with_reducible exact Fr.refl _ _ | with_reducible assumption | with_reducible refine Fr.drew ?_ | with_reducible refine Fr.drewN ?_ _ | with_reducible refine Fr.alloc ?_ _ | with_reducible refine Fr.setIn ?_ (by first | exact Or.inl rfl | exact Or.inr (by simp; done) | exact Or.inr (by simp; omega) | exact Or.inr (by omega)) _)))).mono ?_
  rintro e w1 ⟨rfl, m, rfl⟩
  go_wp2_with fail
  refine (HC.out _ (by (repeat (first | with_reducible exact Fr.refl _ _ | with_reducible assumption | with_reducible refine Fr.drew ?_ | with_reducible refine Fr.drewN ?_ _ | with_reducible refine Fr.alloc ?_ _ | with_reducible refine Fr.setIn ?_ (by first | exact Or.inl rfl | exact Or.inr (by simp; done) | exact Or.inr (by simp; omega) | exact Or.inr (by omega)) _)))).mono ?_
  rintro e w1 ⟨rfl, hf⟩
  have HF : Hid (Fr (fun _ => False) w w1) := Fr.trans (by (repeat (first | with_reducible exact Fr.refl _ _ | with_reducible assumption | with_reducible refine Fr.drew ?_ | with_reducible refine Fr.drewN ?_ _ | with_reducible refine Fr.alloc ?_ _ | with_reducible refine Fr.setIn ?_ (by first | exact Or.inl rfl | exact Or.inr (by simp; done) | exact Or.inr (by simp; omega) | exact Or.inr (by omega)) _))) hf
  clear hf
  go_wp2_with fail
  go_ret
  exact ⟨rfl, HF.out⟩
end Go.Proofs.Ytahhecendjfenaa
end
