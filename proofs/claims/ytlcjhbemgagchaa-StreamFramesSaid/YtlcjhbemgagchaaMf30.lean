/-
  Texts merged into one, to keep the claim small: PrK3, PrC, PrD, PrE, PrF, PrG.
-/
import Derived.Test.YtlcjhbemgagchaaMf29
import Derived.Test.YtlcjhbemgagchaaMf22
import Derived.Test.YtlcjhbemgagchaaMf15
import Derived.Test.YtlcjhbemgagchaaMf8
import Derived.Laws.Rows
section
/-
  proto: lacks (a closure of command), blank, Cost, Query; the reference's Cost and Query. (printed by pr_kinds3.py)
-/
namespace Go.Proofs.Ytlcjhbemgagchaa
open Go.RowKit
set_option linter.unusedVariables false
set_option linter.unusedSimpArgs false
theorem field_0 (a b : Int) (w : World) : (Instr.field 163 (.agg #[.int .i64 a, .int .i64 b]) 0).run Try.prog w = .ok (.int .i64 a) w := by kernel_rfl
theorem field_1 (a b : Int) (w : World) : (Instr.field 163 (.agg #[.int .i64 a, .int .i64 b]) 1).run Try.prog w = .ok (.int .i64 b) w := by kernel_rfl
set_option maxHeartbeats 1000000 in
set_option maxRecDepth 4000 in
theorem lacks_any (w : World) (g : Nat) (hs f : Int) (em B : Bool) (t : TypeId) (hb : Bl w g t #[.int .i64 hs]) (hB : (bits .and .i64 hs f != 0) = B) :
    Calls Try.prog 103 #[.int .i64 f, .bool em, .pointer (some ⟨g, 0, none⟩)] w fun e w' => e = .returned (.bool (B || em)) ∧ w = w' := by
  have c0 := hb.cell' (i := 0) rfl
  clear hb
  cases B <;> cases em
  all_goals go_enter Try.func103, Try.ntmps103
  all_goals go_wp2_with fail
  all_goals go_ret
  all_goals exact ⟨rfl, rfl⟩
theorem neg64 {z : Int} (h : 0 ≤ z ∧ z ≤ 1125899906842624) : IntKind.i64.wrap (-z) = -z := IntWalk.i64_in _ (by omega)
set_option maxHeartbeats 2000000 in
set_option maxRecDepth 4000 in
theorem blank_any (w : World) (r : CR) (hok : r.ok = true) (hn : r.n = r.es.length) :
    Calls Try.prog 107 #[.agg #[.int .i64 r.num, .int .i64 r.kind, .int .i64 r.by_, .int .i64 r.dl, .int .i64 r.to_, .int .i64 r.want, .int .u64 (r.pr : Int), .int .u64 (r.rs : Int), .int .u64 (r.st : Int), .int .i64 r.of_, .slice r.A r.n r.c]] w fun e w' => e = .returned (.bool r.blank) ∧ Fr (fun _ => False) w w' := by
  obtain ⟨h1, h2, h3⟩ := CR.ok_split hok
  have a : ∀ z ∈ r.seven, 0 ≤ z ∧ z ≤ 1125899906842624 := fun z hz => okL_mem h3 hz
  have b1 := neg64 (a r.num (by simp [CR.seven]))
  have b2 := neg64 (a r.kind (by simp [CR.seven]))
  have b3 := neg64 (a r.by_ (by simp [CR.seven]))
  have b4 := neg64 (a r.dl (by simp [CR.seven]))
  have b5 := neg64 (a r.to_ (by simp [CR.seven]))
  have b6 := neg64 (a r.want (by simp [CR.seven]))
  have b7 := neg64 (a r.of_ (by simp [CR.seven]))
  obtain ⟨num, kind, by_, dl, to_, want, pr, rs, st, of_, A, n, c, es⟩ := r
  simp only at hn b1 b2 b3 b4 b5 b6 b7 ⊢
  obtain ⟨q1, hq1⟩ : ∃ q1, -num = q1 := ⟨_, rfl⟩
  obtain ⟨q2, hq2⟩ : ∃ q2, -kind = q2 := ⟨_, rfl⟩
  obtain ⟨q3, hq3⟩ : ∃ q3, -by_ = q3 := ⟨_, rfl⟩
  obtain ⟨q4, hq4⟩ : ∃ q4, -dl = q4 := ⟨_, rfl⟩
  obtain ⟨q5, hq5⟩ : ∃ q5, -to_ = q5 := ⟨_, rfl⟩
  obtain ⟨q6, hq6⟩ : ∃ q6, -want = q6 := ⟨_, rfl⟩
  obtain ⟨q7, hq7⟩ : ∃ q7, -of_ = q7 := ⟨_, rfl⟩
  have HB : Hid (CR.blank ⟨num, kind, by_, dl, to_, want, pr, rs, st, of_, A, n, c, es⟩ = (okL [q1, q2, q3, q4, q5, q6, q7] && decide (pr = 0) && decide (rs = 0) && decide (st = 0) && decide (n = 0))) := by
    show CR.blank _ = _
    unfold CR.blank
    simp only
    rw [hq1, hq2, hq3, hq4, hq5, hq6, hq7, hn]
  rw [hq1] at b1
  rw [hq2] at b2
  rw [hq3] at b3
  rw [hq4] at b4
  rw [hq5] at b5
  rw [hq6] at b6
  rw [hq7] at b7
  have HN := hide (fun b (hb : okL [q1, q2, q3, q4, q5, q6, q7] = b) => numbers_lit (w.alloc (.cells #[.int .i64 num, .int .i64 kind, .int .i64 by_, .int .i64 dl, .int .i64 to_, .int .i64 want, .int .u64 (pr : Int), .int .u64 (rs : Int), .int .u64 (st : Int), .int .i64 of_, .slice A n c] 29)) [q1, q2, q3, q4, q5, q6, q7] (w.heap.size + 1) 7 (by simp) rfl (by omega) #[.int .i64 q1, .int .i64 q2, .int .i64 q3, .int .i64 q4, .int .i64 q5, .int .i64 q6, .int .i64 q7] rfl hb)
  clear h1 h2 h3 a hok hn
  cases h1 : okL [q1, q2, q3, q4, q5, q6, q7] with
  | false =>
    have hr : Hid (CR.blank ⟨num, kind, by_, dl, to_, want, pr, rs, st, of_, A, n, c, es⟩ = false) := by
      show CR.blank _ = _
      rw [HB.out, h1]; simp
    go_enter Try.func107, Try.ntmps107
    go_wp2_with fail
    refine (HN.out _ h1).mono ?_
    rintro e w' ⟨rfl, rfl⟩
    go_wp2_with fail
    go_ret
    exact ⟨by rw [hr.out]; rfl, ((Fr.refl _ _).alloc _).alloc _⟩
  | true =>
    have hr : Hid (CR.blank ⟨num, kind, by_, dl, to_, want, pr, rs, st, of_, A, n, c, es⟩ = (decide (pr = 0) && decide (rs = 0) && decide (st = 0) && decide (n = 0))) := by
      show CR.blank _ = _
      rw [HB.out, h1]; simp
    clear HB
    by_cases k0 : pr = 0
    rotate_left
    · have e0 : decide ((pr : Int) = 0) = false := decide_eq_false (by omega)
      have f0 : ¬ ((pr : Int) = 0) := by omega
      have K0 := hide k0
      clear k0
      go_enter Try.func107, Try.ntmps107
      go_wp2_with fail
      refine (HN.out _ h1).mono ?_
      rintro e w' ⟨rfl, rfl⟩
      go_wp2_with fail
      go_ret
      exact ⟨by rw [hr.out]; simp [K0.out], ((Fr.refl _ _).alloc _).alloc _⟩
    subst k0
    by_cases k1 : rs = 0
    rotate_left
    · have e1 : decide ((rs : Int) = 0) = false := decide_eq_false (by omega)
      have f1 : ¬ ((rs : Int) = 0) := by omega
      have K1 := hide k1
      clear k1
      go_enter Try.func107, Try.ntmps107
      go_wp2_with fail
      refine (HN.out _ h1).mono ?_
      rintro e w' ⟨rfl, rfl⟩
      go_wp2_with fail
      go_ret
      exact ⟨by rw [hr.out]; simp [K1.out], ((Fr.refl _ _).alloc _).alloc _⟩
    subst k1
    by_cases k2 : st = 0
    rotate_left
    · have e2 : decide ((st : Int) = 0) = false := decide_eq_false (by omega)
      have f2 : ¬ ((st : Int) = 0) := by omega
      have K2 := hide k2
      clear k2
      go_enter Try.func107, Try.ntmps107
      go_wp2_with fail
      refine (HN.out _ h1).mono ?_
      rintro e w' ⟨rfl, rfl⟩
      go_wp2_with fail
      go_ret
      exact ⟨by rw [hr.out]; simp [K2.out], ((Fr.refl _ _).alloc _).alloc _⟩
    subst k2
    by_cases k3 : n = 0
    rotate_left
    · have e3 : decide ((n : Int) = 0) = false := decide_eq_false (by omega)
      have f3 : ¬ ((n : Int) = 0) := by omega
      have K3 := hide k3
      clear k3
      go_enter Try.func107, Try.ntmps107
      go_wp2_with fail
      refine (HN.out _ h1).mono ?_
      rintro e w' ⟨rfl, rfl⟩
      go_wp2_with fail
      go_ret
      exact ⟨by rw [hr.out]; simp [K3.out], ((Fr.refl _ _).alloc _).alloc _⟩
    subst k3
    go_enter Try.func107, Try.ntmps107
    go_wp2_with fail
    refine (HN.out _ h1).mono ?_
    rintro e w' ⟨rfl, rfl⟩
    go_wp2_with fail
    go_ret
    exact ⟨by rw [hr.out]; simp [], ((Fr.refl _ _).alloc _).alloc _⟩
theorem cost_max {k : Int} : (1 ≤ k ∧ k ≤ 14 ∧ costI k = ([1, 4, 2, 2, 2, 2, 8, 5, 3, 3, 1, 1, 2, 2, 1].getD k.toNat 0 : Int)) ∨ ((k < 1 ∨ 14 < k) ∧ costI k = 0) := by
  by_cases h : 1 ≤ k ∧ k ≤ 14
  · exact .inl (kind_cases h (fun k => 1 ≤ k ∧ k ≤ 14 ∧ costI k = ([1, 4, 2, 2, 2, 2, 8, 5, 3, 3, 1, 1, 2, 2, 1].getD k.toNat 0 : Int)) (by decide) (by decide) (by decide) (by decide) (by decide) (by decide) (by decide) (by decide) (by decide) (by decide) (by decide) (by decide) (by decide) (by decide))
  · refine .inr ⟨by omega, ?_⟩
    by_cases h0 : k = 0
    · subst h0; rfl
    · exact (hasI_none (by omega)).2
/-- What a command costs. -/
def costK (k : Int) : Int := if 1 ≤ k ∧ k ≤ 14 then costI k else 1
theorem costK_max (k : Int) : (if (1 : Int) ≤ costI k then costI k else 1) = costK k := by
  unfold costK
  by_cases h : 1 ≤ k ∧ k ≤ 14
  · rw [if_pos h, if_pos]
    exact kind_cases h (fun k => 1 ≤ costI k) (by decide) (by decide) (by decide) (by decide) (by decide) (by decide) (by decide) (by decide) (by decide) (by decide) (by decide) (by decide) (by decide) (by decide)
  · rw [if_neg h]
    have : costI k = 0 := by
      by_cases h0 : k = 0
      · subst h0; rfl
      · exact (hasI_none (by omega)).2
    rw [this, if_neg (by omega)]
theorem costs_at (w : World) (j : Nat) (hj : 1 ≤ j ∧ j ≤ 14) (g : Nat) (t : TypeId) (hb : Bl w g t #[.int .i64 1, .int .i64 4, .int .i64 2, .int .i64 2, .int .i64 2, .int .i64 2, .int .i64 8, .int .i64 5, .int .i64 3, .int .i64 3, .int .i64 1, .int .i64 1, .int .i64 2, .int .i64 2, .int .i64 1]) : w.cell? ⟨g, j, none⟩ = some (.int .i64 (costI (j : Int))) := by
  match j, hj with
  | 0, h => omega
  | 1, _ => exact hb.cell' rfl
  | 2, _ => exact hb.cell' rfl
  | 3, _ => exact hb.cell' rfl
  | 4, _ => exact hb.cell' rfl
  | 5, _ => exact hb.cell' rfl
  | 6, _ => exact hb.cell' rfl
  | 7, _ => exact hb.cell' rfl
  | 8, _ => exact hb.cell' rfl
  | 9, _ => exact hb.cell' rfl
  | 10, _ => exact hb.cell' rfl
  | 11, _ => exact hb.cell' rfl
  | 12, _ => exact hb.cell' rfl
  | 13, _ => exact hb.cell' rfl
  | 14, _ => exact hb.cell' rfl
  | j + 15, h => omega
end Go.Proofs.Ytlcjhbemgagchaa
end

section
/-
  proto's law: ints, entry, same, num; lentInts, marked.
-/
namespace Go.Proofs.Ytlcjhbemgagchaa
open Go.RowKit
set_option linter.unusedVariables false
set_option linter.unusedSimpArgs false
theorem infoInt : (Try.prog.info? 3).map (fun i => (i.zero, i.size, i.bytes)) = some (some (.int .i64 0), 1, 8) := by kernel_rfl
theorem iv_one (xs : List Int) : ∀ u ∈ xs.map iv, u.oneCell' = true := by
  intro u hu
  obtain ⟨x, -, rfl⟩ := List.mem_map.1 hu
  rfl
/-- Two entries that are the same, wherever their wishes lie. -/
def ER.like (a b : ER) : Prop := a.acc = b.acc ∧ a.item = b.item ∧ a.co = b.co ∧ a.pr = b.pr ∧ a.ws = b.ws
/-- Numbers lent: in memory of their own, two marks behind them. -/
structure LI (W w : World) (A : Option Addr) (n c : Nat) (xs : List Int) (g : Nat) : Prop where
  ow : Ow w 3 1 A (n + 2) c ((xs ++ [-77, -78]).map iv) (some g)
  len : n = xs.length
  new : W.heap.size ≤ g
end Go.Proofs.Ytlcjhbemgagchaa
end

section
/-
  proto's law: lentEntry.
-/
namespace Go.Proofs.Ytlcjhbemgagchaa
open Go.RowKit
set_option linter.unusedVariables false
set_option linter.unusedSimpArgs false
abbrev tEnt : TypeId := 26
theorem LI.fr {W w w' : World} {A : Option Addr} {n c : Nat} {xs : List Int} {g : Nat} {S : Nat → Prop} (h : LI W w A n c xs g) (hf : Fr S w w') (hS : ¬ S g) : LI W w' A n c xs g :=
  ⟨h.ow.fr hf (fun b e hb => hS (by cases e; exact hb)), h.len, h.new⟩
theorem LI.sl {W w : World} {A : Option Addr} {n c : Nat} {xs : List Int} {g : Nat} (h : LI W w A n c xs g) : Sl w 1 A n (xs.map iv) := by
  have := (h.ow.take (k := n) (by omega)).sl
  rwa [Nat.mul_one, List.map_append, List.take_left' (by simp [h.len])] at this
theorem LI.cap {W w : World} {A : Option Addr} {n c : Nat} {xs : List Int} {g : Nat} (h : LI W w A n c xs g) : n ≤ c ∧ c ≤ 9223372036854775807 := by
  have := h.ow.cap
  exact ⟨by have := this.1; omega, by have := this.2; unfold maxLen at this; exact this⟩
end Go.Proofs.Ytlcjhbemgagchaa
end

section
/-
  proto's law: lentContract. (printed by pr_lent.py)
-/
namespace Go.Proofs.Ytlcjhbemgagchaa
open Go.RowKit
set_option linter.unusedVariables false
set_option linter.unusedSimpArgs false
def mk2 : List Value := [.int .i64 (-77), .int .i64 0, .int .u64 0, .int .u64 0, .slice none 0 0, .int .i64 (-78), .int .i64 0, .int .u64 0, .int .u64 0, .slice none 0 0]
/-- Entries lent: in memory of their own, each one's wishes too. -/
structure LEr (W w : World) (es : List ER) (L : Option Addr) (N cl : Nat) (rs : List ER) (g : Option Nat) (more : List Value) : Prop where
  le : rs.length ≤ es.length
  like : ∀ i (h : i < rs.length) (h' : i < es.length), (rs[i]).like es[i]
  ow : Ow w tEnt 5 L N cl (rs.flatMap ER.cells ++ more) g
  li : ∀ r ∈ rs, ∃ gi, LI W w r.A r.n r.c r.ws gi
  small : ∀ r ∈ rs, r.n ≤ 17592186043904
  new : ∀ b, g = some b → W.heap.size ≤ b
  fr : Fr (fun _ => False) W w
theorem LEr.begin {W w : World} (es : List ER) (hf : Fr (fun _ => False) W w) : LEr W w es none 0 0 [] none [] :=
  ⟨Nat.zero_le _, (fun i h => absurd h (by simp)), Ow.nil_ _ _ _, (fun r h => by cases h), (fun r h => by cases h), (fun b h => by cases h), hf⟩
theorem LI.ne {W w : World} {A : Option Addr} {n c : Nat} {xs : List Int} {gi : Nat} (h : LI W w A n c xs gi) {L : Option Addr} {N cl s : Nat} {ys : List Value} {g : Option Nat} (hO : Ow w tEnt s L N cl ys g) : ¬ some gi = g := fun e => by
  rw [← e] at hO
  exact Ow.ne hO h.ow (by decide) rfl
theorem LEr.quiet {W w w' : World} {es : List ER} {L : Option Addr} {N cl : Nat} {rs : List ER} {g : Option Nat} {more : List Value} (h : LEr W w es L N cl rs g more) (hf : Fr (fun _ => False) w w') : LEr W w' es L N cl rs g more :=
  ⟨h.le, h.like, h.ow.fr hf (fun _ _ => id), (fun r hr => by obtain ⟨gi, hi⟩ := h.li r hr; exact ⟨gi, hi.fr hf id⟩), h.small, h.new, h.fr.trans hf⟩
/-- One more. -/
theorem LEr.app {W w w2 w3 : World} {es : List ER} {L L3 : Option Addr} {j cl cl3 : Nat} {rs : List ER} {g g3 : Option Nat} (h : LEr W w es L j cl rs g []) (hj : j = rs.length) {r : ER} (hl : j < es.length) (hlike : r.like es[j]) (hf2 : Fr (fun _ => False) w w2) {gi : Nat} (hi : LI w w2 r.A r.n r.c r.ws gi) (hs : r.n ≤ 17592186043904)
    (hO : Ow w3 tEnt 5 L3 (j + 1) cl3 (rs.flatMap ER.cells ++ r.cells) g3) (hf23 : Fr (fun x => some x = g) w2 w3) (hg3 : g3 = g ∨ ∃ b, g3 = some b ∧ w2.heap.size ≤ b) : LEr W w3 es L3 (j + 1) cl3 (rs ++ [r]) g3 [] := by
  have s0 := h.fr.size
  have s2 := hf2.size
  have hO2 := h.ow.fr hf2 (fun _ _ => id)
  refine ⟨by rw [List.length_append]; show rs.length + 1 ≤ _; omega, fun i hi' h' => ?_, ?_, fun q hq => ?_, fun q hq => ?_, fun b e => ?_, ?_⟩
  · by_cases hij : i < rs.length
    · have e : (rs ++ [r])[i] = rs[i] := List.getElem_append_left hij
      rw [e]; exact h.like i hij h'
    · have hi2 : i = j := by have := hi'; rw [List.length_append] at this; have h1 : ([r] : List ER).length = 1 := rfl; omega
      subst hi2
      have e : (rs ++ [r])[i] = r := by rw [List.getElem_append_right (by omega)]; simp
      rw [e]; exact hlike
  · rw [List.flatMap_append, List.append_nil]
    have e : [r].flatMap ER.cells = r.cells := by simp
    rw [e]; exact hO
  · rcases List.mem_append.1 hq with hq | hq
    · obtain ⟨gq, hgq⟩ := h.li q hq
      exact ⟨gq, (hgq.fr hf2 id).fr hf23 ((hgq.fr hf2 id).ne hO2)⟩
    · have : q = r := by simpa using hq
      subst this
      have := hi.fr hf23 (hi.ne hO2)
      exact ⟨gi, this.ow, this.len, Nat.le_trans s0 this.new⟩
  · rcases List.mem_append.1 hq with hq | hq
    · exact h.small q hq
    · have : q = r := by simpa using hq
      subst this; exact hs
  · rcases hg3 with e3 | ⟨x, e3, hx⟩
    · exact h.new b (by rw [← e3]; exact e)
    · rw [e3] at e; cases e; omega
  · exact (h.fr.trans hf2).comp hf23 fun x hx e => by have := h.new x e.symm; omega
/-- Two blocks turn that stand ahead of all of these. -/
theorem LEr.turn {W W0 w w' : World} {es : List ER} {L : Option Addr} {N cl : Nat} {rs : List ER} {g : Option Nat} {more : List Value} {a : Nat} (hE : LEr W0 w es L N cl rs g more) (hf : Fr (fun x => x = a ∨ x = a + 1) w w') (ha : a + 1 < W0.heap.size) (hW : W.heap.size ≤ a) (hF : Fr (fun _ => False) W W0) : LEr W w' es L N cl rs g more :=
  ⟨hE.le, hE.like, hE.ow.fr hf (fun b e hb => by have := hE.new b e; omega), fun q hq => by
    obtain ⟨gq, hgq⟩ := hE.li q hq
    have hn := hgq.new
    have h1 := hgq.fr hf (by omega)
    exact ⟨gq, h1.ow, h1.len, by omega⟩, hE.small, fun b e => by have := hE.new b e; omega, (hF.trans hE.fr).comp hf fun x hx e => by omega⟩
theorem infoEnt : (Try.prog.info? tEnt).map (fun i => (i.zero, i.size, i.bytes)) = some (some (.agg #[.int .i64 0, .int .i64 0, .int .u64 0, .int .u64 0, .slice none 0 0]), 5, 56) := by kernel_rfl
end Go.Proofs.Ytlcjhbemgagchaa
end

section
/-
  proto's law: contract and reply, where both are the same; markedContract.
-/
namespace Go.Proofs.Ytlcjhbemgagchaa
open Go.RowKit
set_option linter.unusedVariables false
set_option linter.unusedSimpArgs false
theorem LEr.row {W w : World} {es : List ER} {L : Option Addr} {N cl : Nat} {rs : List ER} {g : Option Nat} {more : List Value} (h : LEr W w es L N cl rs g more) {i : Nat} (hi : i < rs.length) : ∃ b o, L = some ⟨b, o, none⟩ ∧ ∀ j u, (rs[i].cells)[j]? = some u → w.cell? ⟨b, o + i * 5 + j, none⟩ = some u := by
  have hat : ∀ j u, (rs[i].cells)[j]? = some u → (rs.flatMap ER.cells ++ more)[i * 5 + j]? = some u := fun j u hu => by
    have hj : j < 5 := by
      rcases Nat.lt_or_ge j 5 with h | h
      · exact h
      · rw [List.getElem?_eq_none (by rw [ER.cells_len]; exact h)] at hu; cases hu
    rw [List.getElem?_append_left (by rw [rows_len ER.cells 5 ER.cells_len]; omega), rows_get ER.cells 5 ER.cells_len _ _ _ hi hj]
    exact hu
  obtain ⟨b, o, hA, -, -⟩ := h.ow.look (hat 0 _ rfl)
  refine ⟨b, o, hA, fun j u hu => ?_⟩
  obtain ⟨b', o', hA', -, hc, -⟩ := h.ow.look (hat j u hu)
  rw [hA] at hA'
  cases hA'
  rwa [← Nat.add_assoc] at hc
theorem LEr.at_ {W w : World} {es : List ER} {L : Option Addr} {N cl : Nat} {rs : List ER} {g : Option Nat} {more : List Value} (h : LEr W w es L N cl rs g more) {r : ER} (hr : r ∈ rs) : r.at_ w := by
  obtain ⟨gi, hi⟩ := h.li r hr
  exact ⟨hi.sl, h.small r hr, hi.cap⟩
end Go.Proofs.Ytlcjhbemgagchaa
end

section
/-
  proto's law: contract and reply, where both are the same; markedContract. (printed by pr_like.py)
-/
namespace Go.Proofs.Ytlcjhbemgagchaa
open Go.RowKit
set_option linter.unusedVariables false
set_option linter.unusedSimpArgs false
abbrev tCon : TypeId := 29
abbrev tRep : TypeId := 35
structure CR.like (a b : CR) : Prop where
  num : a.num = b.num
  kind : a.kind = b.kind
  by_ : a.by_ = b.by_
  dl : a.dl = b.dl
  to_ : a.to_ = b.to_
  want : a.want = b.want
  pr : a.pr = b.pr
  rs : a.rs = b.rs
  st : a.st = b.st
  of_ : a.of_ = b.of_
  len : a.es.length = b.es.length
  es : ∀ i (h : i < a.es.length) (h' : i < b.es.length), (a.es[i]).like b.es[i]
/-- What is lent, as a contract. -/
def CR.lent (r : CR) (L : Option Addr) (cl : Nat) (rs : List ER) : CR := { r with A := L, c := cl, es := rs }
theorem LEr.con_like {W w : World} {r : CR} {L : Option Addr} {N cl : Nat} {rs : List ER} {g : Option Nat} {more : List Value} (h : LEr W w r.es L N cl rs g more) (hl : rs.length = r.es.length) : (r.lent L cl rs).like r :=
  ⟨rfl, rfl, rfl, rfl, rfl, rfl, rfl, rfl, rfl, rfl, hl, h.like⟩
theorem LEr.con_at {W w : World} {r : CR} {L : Option Addr} {cl : Nat} {rs : List ER} {g : Option Nat} {more : List Value} (h : LEr W w r.es L (r.n + 2) cl rs g more) (hl : rs.length = r.n) (hle : r.n ≤ 2513169434843) : (r.lent L cl rs).at_ w := by
  refine ⟨?_, hle, ?_, fun e he => h.at_ he⟩
  · have := (h.ow.take (k := r.n) (by omega)).sl
    rwa [List.take_left' (by rw [rows_len ER.cells 5 ER.cells_len, hl])] at this
  · have := h.ow.cap
    exact ⟨by have := this.1; show r.n ≤ cl; omega, by have := this.2; unfold maxLen at this; exact this⟩

structure RR.like (a b : RR) : Prop where
  id : a.id = b.id
  err : a.err = b.err
  num : a.num = b.num
  co : a.co = b.co
  items : a.items = b.items
  txt : a.txt = b.txt
  bits : a.bits = b.bits
  k : a.k.like b.k

theorem ER.like.ok {a b : ER} (h : a.like b) : a.ok = b.ok := by
  obtain ⟨h1, h2, h3, h4, h5⟩ := h
  unfold ER.ok; rw [h1, h2, h5]
theorem ER.like.form {a b : ER} (h : a.like b) : a.form = b.form := by
  obtain ⟨h1, h2, h3, h4, h5⟩ := h
  unfold ER.form ER.fl; rw [h1, h2, h3, h4, h5]
theorem CR.like.map {β : Type} {a b : CR} (h : a.like b) (f : ER → β) (hf : ∀ x y : ER, x.like y → f x = f y) : a.es.map f = b.es.map f :=
  List.ext_getElem (by simp [h.len]) fun i h1 h2 => by
    rw [List.getElem_map, List.getElem_map]
    exact hf _ _ (h.es i _ _)
theorem CR.like.ok {a b : CR} (h : a.like b) : a.ok = b.ok := by
  have e : ∀ l : List ER, l.all ER.ok = (l.map ER.ok).all (fun x => x) := fun l => by rw [List.all_map]; rfl
  unfold CR.ok CR.seven
  rw [e, e, h.map ER.ok (fun _ _ => ER.like.ok), h.len, h.num, h.kind, h.by_, h.dl, h.to_, h.want, h.of_]
theorem CR.like.form {a b : CR} (h : a.like b) : a.form = b.form := by
  unfold CR.form CR.fl
  rw [h.map ER.form (fun _ _ => ER.like.form), h.num, h.kind, h.by_, h.dl, h.to_, h.want, h.of_, h.pr, h.rs, h.st]
theorem CR.like.wf {a b : CR} (h : a.like b) (hb : b.wf) : a.wf := by
  refine ⟨by rw [h.pr]; exact hb.pr, by rw [h.rs]; exact hb.rs, by rw [h.st]; exact hb.st, fun e he => ?_⟩
  obtain ⟨i, hi, rfl⟩ := List.getElem_of_mem he
  have hi' : i < b.es.length := by rw [← h.len]; exact hi
  obtain ⟨h1, h2, h3, h4, h5⟩ := h.es i hi hi'
  have hw := hb.es _ (List.getElem_mem hi')
  exact ⟨by rw [h3]; exact hw.co, by rw [h4]; exact hw.pr⟩
theorem RR.like.ok {a b : RR} (h : a.like b) : a.ok = b.ok := by
  unfold RR.ok
  rw [h.id, h.err, h.num, h.items, h.txt, h.k.ok]
theorem RR.like.form {a b : RR} (h : a.like b) : a.form = b.form := by
  unfold RR.form RR.fl
  rw [h.id, h.err, h.num, h.co, h.items, h.txt, h.bits, h.k.form]
theorem RR.like.wf {a b : RR} (h : a.like b) (hb : b.wf) : a.wf := by
  refine ⟨by rw [h.co]; exact hb.co, by rw [h.bits]; exact hb.bits, h.k.wf hb.k, by rw [h.txt]; exact hb.txt⟩

end Go.Proofs.Ytlcjhbemgagchaa
end
