/-
  Texts merged into one, to keep the claim small: Pr2, PrC, PrD, PrE, PrF, PrG.
-/
import Derived.Test.YtlcjhbemgagchaaMc12
import Derived.Test.YtlcjhbemgagchaaMc8
import Derived.Test.YtlcjhbemgagchaaMc4
import Derived.Laws.Rows
section
/-
  proto: numbers, entry, contract, reply (may it be?).
-/
namespace Go.Proofs.Ytlcjhbemgagchaa
open Go.RowKit
set_option linter.unusedVariables false
set_option linter.unusedSimpArgs false
structure ER.at_ (w : World) (r : ER) : Prop where
  sl : Sl w 1 r.A r.n (r.ws.map iv)
  le : r.n ≤ 17592186043904
  cap : r.n ≤ r.c ∧ r.c ≤ 9223372036854775807
structure CR.at_ (w : World) (r : CR) : Prop where
  sl : Sl w 5 r.A r.n (r.es.flatMap ER.cells)
  le : r.n ≤ 2513169434843
  cap : r.n ≤ r.c ∧ r.c ≤ 9223372036854775807
  es : ∀ e ∈ r.es, e.at_ w
structure RR.at_ (w : World) (r : RR) : Prop where
  sl : Sl w 1 r.A r.n (r.items.map iv)
  le : r.n ≤ 17592186043904
  cap : r.n ≤ r.c ∧ r.c ≤ 9223372036854775807
  k : r.k.at_ w
theorem Sl.quiet {w w' : World} {s n : Nat} {A : Option Addr} {xs : List Value} (h : Sl w s A n xs) (hf : Fr (fun _ => False) w w') : Sl w' s A n xs := h.below hf fun _ _ => id
theorem ER.at_.quiet {w w' : World} {r : ER} (h : r.at_ w) (hf : Fr (fun _ => False) w w') : r.at_ w' := ⟨h.sl.quiet hf, h.le, h.cap⟩
theorem CR.at_.quiet {w w' : World} {r : CR} (h : r.at_ w) (hf : Fr (fun _ => False) w w') : r.at_ w' := ⟨h.sl.quiet hf, h.le, h.cap, fun e he => (h.es e he).quiet hf⟩
theorem RR.at_.quiet {w w' : World} {r : RR} (h : r.at_ w) (hf : Fr (fun _ => False) w w') : r.at_ w' := ⟨h.sl.quiet hf, h.le, h.cap, h.k.quiet hf⟩
theorem Sl.ilen {w : World} {A : Option Addr} {n : Nat} {xs : List Int} (h : Sl w 1 A n (xs.map iv)) : n = xs.length := by have := h.1; simpa using this.symm
theorem CR.at_.len {w : World} {r : CR} (h : r.at_ w) : r.n = r.es.length := by
  have := h.sl.1
  rw [rows_len ER.cells 5 ER.cells_len] at this
  omega
theorem CR.at_.row {w : World} {r : CR} (h : r.at_ w) {i : Nat} (hi : i < r.es.length) : ∃ b o, r.A = some ⟨b, o, none⟩ ∧ ∀ j u, (r.es[i].cells)[j]? = some u → w.cell? ⟨b, o + i * 5 + j, none⟩ = some u := by
  obtain ⟨b, o, hA, -⟩ := h.sl.at_ (j := i * 5 + 0) (u := .int .i64 r.es[i].acc) (by rw [rows_get ER.cells 5 ER.cells_len _ _ _ hi (by omega)]; rfl)
  refine ⟨b, o, hA, fun j u hu => ?_⟩
  have hj : j < 5 := by
    rcases Nat.lt_or_ge j 5 with h | h
    · exact h
    · rw [List.getElem?_eq_none (by rw [ER.cells_len]; exact h)] at hu; cases hu
  obtain ⟨b', o', hA', hc⟩ := h.sl.at_ (j := i * 5 + j) (u := u) (by rw [rows_get ER.cells 5 ER.cells_len _ _ _ hi hj]; exact hu)
  rw [hA] at hA'
  cases hA'
  rwa [← Nat.add_assoc] at hc

set_option maxHeartbeats 2000000 in
set_option maxRecDepth 4000 in
theorem numbers_any (w : World) (xs : List Int) (A : Option Addr) (n c : Nat) (hn : n ≤ 17592186043904) (hA : Sl w 1 A n (xs.map iv)) :
    Calls Try.prog 104 #[.slice A n c] w fun e w' => e = .returned (.bool (okL xs)) ∧ w = w' := by
  have Hn := hide (hA.ilen)
  have HA := hide hA
  clear hA
  go_enter Try.func104, Try.ntmps104
  go_wp2_with fail
  go_loopw [7] (fun vi wr => ∃ j : Nat, j ≤ n ∧ vi = .int .i64 (j : Int) ∧ Hid (okL xs = okL (xs.drop j)) ∧ Hid (wr = w)) (fun vi _ => n - (intOf vi).toNat)
  case atStart => exact ⟨0, Nat.zero_le _, rfl, rfl, rfl⟩
  case round =>
    obtain ⟨j, hj, rfl, hk, hw⟩ := hrel
    have hw2 := hw.out
    subst hw2
    by_cases hlt : j < n
    · have hjl : j < xs.length := by rw [← Hn.out]; exact hlt
      obtain ⟨z, hz⟩ : ∃ z, xs[j] = z := ⟨_, rfl⟩
      have hd : xs.drop j = z :: xs.drop (j + 1) := by rw [List.drop_eq_getElem_cons hjl, hz]
      obtain ⟨b, o, rfl, c0⟩ := HA.out.at_ (j := j) (u := .int .i64 z) (by rw [List.getElem?_map, List.getElem?_eq_getElem hjl, hz]; rfl)
      have i0 : (0 : Int) ≤ (j : Int) := by omega
      have i1 : (j : Int) < (n : Int) := by omega
      have q1 : IntKind.i64.wrap ((j : Int) + 1) = ((j + 1 : Nat) : Int) := by rw [IntWalk.i64_in _ (by omega)]; omega
      have Hd := hide hd
      have Hlt := hide hlt
      clear hz hd hjl hlt hj
      by_cases h1 : z < 0
      · have hf : Hid (okL xs = false) := by
          show _ = _
          rw [hk.out, Hd.out]
          have : okN z = false := by simp [okN]; omega
          simp [okL, this]
        go_wp2_with fail
        go_ret
        exact ⟨by rw [hf.out]; rfl, rfl⟩
      by_cases h2 : (1125899906842624 : Int) < z
      · have hf : Hid (okL xs = false) := by
          show _ = _
          rw [hk.out, Hd.out]
          have : okN z = false := by simp [okN]; omega
          simp [okL, this]
        go_wp2_with fail
        go_ret
        exact ⟨by rw [hf.out]; rfl, rfl⟩
      have hk2 : Hid (okL xs = okL (xs.drop (j + 1))) := by
        show _ = _
        rw [hk.out, Hd.out]
        have : okN z = true := by simp [okN]; omega
        simp [okL, this]
      have h3 : decide (z < 0) = false := decide_eq_false h1
      have h4 : decide ((1125899906842624 : Int) < z) = false := decide_eq_false h2
      clear h1 h2 hk
      go_wp2_with fail
      have := Hlt.out
      exact ⟨⟨j + 1, by omega, by first | rfl | go_num, hk2, trivial⟩, by simp [intOf]; try omega⟩
    · have hf : Hid (okL xs = true) := by
        show _ = _
        rw [hk.out, List.drop_eq_nil_of_le (by rw [← Hn.out]; omega)]; rfl
      obtain rfl : j = n := by omega
      clear hlt hj
      go_wp2_with fail
      go_ret
      exact ⟨by rw [hf.out]; rfl, rfl⟩
/-- numbers, of a row that is laid for the call. -/
theorem numbers_lit (w0 : World) (xs : List Int) (g n : Nat) (hg : g = w0.heap.size) (hn : n = xs.length) (hb : n ≤ 100) (cs : Array Value) (hc : cs.toList = xs.map iv) {b : Bool} (hr : okL xs = b) :
    Calls Try.prog 104 #[.slice (some ⟨g, 0, none⟩) n n] (w0.alloc (.cells cs 3)) fun e w' => e = .returned (.bool b) ∧ w0.alloc (.cells cs 3) = w' := by
  subst hg hr
  refine numbers_any _ xs _ n n (by omega) ?_
  rw [← hc]
  refine Sl.row w0 cs 3 1 n ?_
  rw [← Array.length_toList, hc, List.length_map, hn]; omega
set_option maxHeartbeats 2000000 in
set_option maxRecDepth 4000 in
theorem entry_any (w : World) (r : ER) (h : r.at_ w) :
    Calls Try.prog 105 #[.agg #[.int .i64 r.acc, .int .i64 r.item, .int .u64 (r.co : Int), .int .u64 (r.pr : Int), .slice r.A r.n r.c]] w fun e w' => e = .returned (.bool r.ok) ∧ Fr (fun _ => False) w w' := by
  obtain ⟨acc, item, co, pr, A, n, c, ws⟩ := r
  have hlen : n = ws.length := h.sl.ilen
  have hle : n ≤ 17592186043904 := h.le
  have hsl := hide h.sl
  simp only at hsl ⊢
  have hN2 : ∀ w1 : World, Fr (fun _ => False) w w1 → Calls Try.prog 104 #[.slice A n c] w1 fun e w' => e = .returned (.bool (okL ws)) ∧ w1 = w' := fun w1 hf => numbers_any w1 ws A n c hle (hsl.out.quiet hf)
  have HN2 := hide hN2
  have Hlen := hide hlen
  clear hN2 hlen h hsl
  cases h1 : okL [acc, item] with
  | false =>
    have hr : Hid (ER.ok ⟨acc, item, co, pr, A, n, c, ws⟩ = false) := by show ER.ok _ = _; simp [ER.ok, h1]
    have C1 := numbers_lit (w.alloc (.cells #[.int .i64 acc, .int .i64 item, .int .u64 (co : Int), .int .u64 (pr : Int), .slice A n c] 26)) [acc, item] (w.heap.size + 1) 2 (by simp) rfl (by omega) #[.int .i64 acc, .int .i64 item] rfl h1
    have HC1 := hide C1
    clear h1 C1
    go_enter Try.func105, Try.ntmps105
    go_wp2_with fail
    refine HC1.out.mono ?_
    rintro e w' ⟨rfl, rfl⟩
    go_wp2_with fail
    go_ret
    exact ⟨by rw [hr.out]; rfl, ((Fr.refl _ _).alloc _).alloc _⟩
  | true =>
    have C1 := numbers_lit (w.alloc (.cells #[.int .i64 acc, .int .i64 item, .int .u64 (co : Int), .int .u64 (pr : Int), .slice A n c] 26)) [acc, item] (w.heap.size + 1) 2 (by simp) rfl (by omega) #[.int .i64 acc, .int .i64 item] rfl h1
    have HC1 := hide C1
    have H1 := hide h1
    clear h1 C1
    by_cases h2 : 16 < n
    · have hr : Hid (ER.ok ⟨acc, item, co, pr, A, n, c, ws⟩ = false) := by
        have : decide (ws.length ≤ 16) = false := decide_eq_false (by have := Hlen.out; omega)
        show ER.ok _ = _; simp only [ER.ok, this, Bool.and_false, Bool.false_and]
      have i2 : decide ((n : Int) ≤ 16) = false := decide_eq_false (by omega)
      have i3 : decide (n ≤ 16) = false := decide_eq_false (by omega)
      clear h2
      go_enter Try.func105, Try.ntmps105
      go_wp2_with fail
      refine HC1.out.mono ?_
      rintro e w' ⟨rfl, rfl⟩
      go_wp2_with fail
      go_ret
      exact ⟨by rw [hr.out]; rfl, ((Fr.refl _ _).alloc _).alloc _⟩
    · have hr : Hid (ER.ok ⟨acc, item, co, pr, A, n, c, ws⟩ = okL ws) := by
        have : decide (ws.length ≤ 16) = true := decide_eq_true (by have := Hlen.out; omega)
        show ER.ok _ = _; simp only [ER.ok, this, H1.out, Bool.true_and]
      have i2 : decide ((n : Int) ≤ 16) = true := decide_eq_true (by omega)
      have i3 : decide (n ≤ 16) = true := decide_eq_true (by omega)
      clear h2
      go_enter Try.func105, Try.ntmps105
      go_wp2_with fail
      refine HC1.out.mono ?_
      rintro e w' ⟨rfl, rfl⟩
      go_wp2_with fail
      refine (HN2.out _ (((Fr.refl _ _).alloc _).alloc _)).mono ?_
      rintro e w' ⟨rfl, rfl⟩
      go_wp2_with fail
      all_goals go_ret
      all_goals exact ⟨by rw [hr.out]; rfl, ((Fr.refl _ _).alloc _).alloc _⟩
end Go.Proofs.Ytlcjhbemgagchaa
end

section
/-
  proto's law: ints, entry, same, num; lentInts, marked.
-/
namespace Go.Proofs.Ytlcjhbemgagchaa
open Go.RowKit
set_option linter.unusedVariables false
set_option linter.unusedSimpArgs false
theorem infoInt : (Try.prog.info? 3).map (fun i => (i.zero, i.size, i.bytes)) = some (some (.int .i64 0), 1, 8) := by kernel_rfl
theorem iv_one (xs : List Int) : ∀ u ∈ xs.map iv, u.oneCell' = true := by
  intro u hu
  obtain ⟨x, -, rfl⟩ := List.mem_map.1 hu
  rfl
/-- Two entries that are the same, wherever their wishes lie. -/
def ER.like (a b : ER) : Prop := a.acc = b.acc ∧ a.item = b.item ∧ a.co = b.co ∧ a.pr = b.pr ∧ a.ws = b.ws
/-- Numbers lent: in memory of their own, two marks behind them. -/
structure LI (W w : World) (A : Option Addr) (n c : Nat) (xs : List Int) (g : Nat) : Prop where
  ow : Ow w 3 1 A (n + 2) c ((xs ++ [-77, -78]).map iv) (some g)
  len : n = xs.length
  new : W.heap.size ≤ g
end Go.Proofs.Ytlcjhbemgagchaa
end

section
/-
  proto's law: lentEntry.
-/
namespace Go.Proofs.Ytlcjhbemgagchaa
open Go.RowKit
set_option linter.unusedVariables false
set_option linter.unusedSimpArgs false
abbrev tEnt : TypeId := 26
theorem LI.fr {W w w' : World} {A : Option Addr} {n c : Nat} {xs : List Int} {g : Nat} {S : Nat → Prop} (h : LI W w A n c xs g) (hf : Fr S w w') (hS : ¬ S g) : LI W w' A n c xs g :=
  ⟨h.ow.fr hf (fun b e hb => hS (by cases e; exact hb)), h.len, h.new⟩
theorem LI.sl {W w : World} {A : Option Addr} {n c : Nat} {xs : List Int} {g : Nat} (h : LI W w A n c xs g) : Sl w 1 A n (xs.map iv) := by
  have := (h.ow.take (k := n) (by omega)).sl
  rwa [Nat.mul_one, List.map_append, List.take_left' (by simp [h.len])] at this
theorem LI.cap {W w : World} {A : Option Addr} {n c : Nat} {xs : List Int} {g : Nat} (h : LI W w A n c xs g) : n ≤ c ∧ c ≤ 9223372036854775807 := by
  have := h.ow.cap
  exact ⟨by have := this.1; omega, by have := this.2; unfold maxLen at this; exact this⟩
end Go.Proofs.Ytlcjhbemgagchaa
end

section
/-
  proto's law: lentContract. (printed by pr_lent.py)
-/
namespace Go.Proofs.Ytlcjhbemgagchaa
open Go.RowKit
set_option linter.unusedVariables false
set_option linter.unusedSimpArgs false
def mk2 : List Value := [.int .i64 (-77), .int .i64 0, .int .u64 0, .int .u64 0, .slice none 0 0, .int .i64 (-78), .int .i64 0, .int .u64 0, .int .u64 0, .slice none 0 0]
/-- Entries lent: in memory of their own, each one's wishes too. -/
structure LEr (W w : World) (es : List ER) (L : Option Addr) (N cl : Nat) (rs : List ER) (g : Option Nat) (more : List Value) : Prop where
  le : rs.length ≤ es.length
  like : ∀ i (h : i < rs.length) (h' : i < es.length), (rs[i]).like es[i]
  ow : Ow w tEnt 5 L N cl (rs.flatMap ER.cells ++ more) g
  li : ∀ r ∈ rs, ∃ gi, LI W w r.A r.n r.c r.ws gi
  small : ∀ r ∈ rs, r.n ≤ 17592186043904
  new : ∀ b, g = some b → W.heap.size ≤ b
  fr : Fr (fun _ => False) W w
theorem LEr.begin {W w : World} (es : List ER) (hf : Fr (fun _ => False) W w) : LEr W w es none 0 0 [] none [] :=
  ⟨Nat.zero_le _, (fun i h => absurd h (by simp)), Ow.nil_ _ _ _, (fun r h => by cases h), (fun r h => by cases h), (fun b h => by cases h), hf⟩
theorem LI.ne {W w : World} {A : Option Addr} {n c : Nat} {xs : List Int} {gi : Nat} (h : LI W w A n c xs gi) {L : Option Addr} {N cl s : Nat} {ys : List Value} {g : Option Nat} (hO : Ow w tEnt s L N cl ys g) : ¬ some gi = g := fun e => by
  rw [← e] at hO
  exact Ow.ne hO h.ow (by decide) rfl
theorem LEr.quiet {W w w' : World} {es : List ER} {L : Option Addr} {N cl : Nat} {rs : List ER} {g : Option Nat} {more : List Value} (h : LEr W w es L N cl rs g more) (hf : Fr (fun _ => False) w w') : LEr W w' es L N cl rs g more :=
  ⟨h.le, h.like, h.ow.fr hf (fun _ _ => id), (fun r hr => by obtain ⟨gi, hi⟩ := h.li r hr; exact ⟨gi, hi.fr hf id⟩), h.small, h.new, h.fr.trans hf⟩
/-- One more. -/
theorem LEr.app {W w w2 w3 : World} {es : List ER} {L L3 : Option Addr} {j cl cl3 : Nat} {rs : List ER} {g g3 : Option Nat} (h : LEr W w es L j cl rs g []) (hj : j = rs.length) {r : ER} (hl : j < es.length) (hlike : r.like es[j]) (hf2 : Fr (fun _ => False) w w2) {gi : Nat} (hi : LI w w2 r.A r.n r.c r.ws gi) (hs : r.n ≤ 17592186043904)
    (hO : Ow w3 tEnt 5 L3 (j + 1) cl3 (rs.flatMap ER.cells ++ r.cells) g3) (hf23 : Fr (fun x => some x = g) w2 w3) (hg3 : g3 = g ∨ ∃ b, g3 = some b ∧ w2.heap.size ≤ b) : LEr W w3 es L3 (j + 1) cl3 (rs ++ [r]) g3 [] := by
  have s0 := h.fr.size
  have s2 := hf2.size
  have hO2 := h.ow.fr hf2 (fun _ _ => id)
  refine ⟨by rw [List.length_append]; show rs.length + 1 ≤ _; omega, fun i hi' h' => ?_, ?_, fun q hq => ?_, fun q hq => ?_, fun b e => ?_, ?_⟩
  · by_cases hij : i < rs.length
    · have e : (rs ++ [r])[i] = rs[i] := List.getElem_append_left hij
      rw [e]; exact h.like i hij h'
    · have hi2 : i = j := by have := hi'; rw [List.length_append] at this; have h1 : ([r] : List ER).length = 1 := rfl; omega
      subst hi2
      have e : (rs ++ [r])[i] = r := by rw [List.getElem_append_right (by omega)]; simp
      rw [e]; exact hlike
  · rw [List.flatMap_append, List.append_nil]
    have e : [r].flatMap ER.cells = r.cells := by simp
    rw [e]; exact hO
  · rcases List.mem_append.1 hq with hq | hq
    · obtain ⟨gq, hgq⟩ := h.li q hq
      exact ⟨gq, (hgq.fr hf2 id).fr hf23 ((hgq.fr hf2 id).ne hO2)⟩
    · have : q = r := by simpa using hq
      subst this
      have := hi.fr hf23 (hi.ne hO2)
      exact ⟨gi, this.ow, this.len, Nat.le_trans s0 this.new⟩
  · rcases List.mem_append.1 hq with hq | hq
    · exact h.small q hq
    · have : q = r := by simpa using hq
      subst this; exact hs
  · rcases hg3 with e3 | ⟨x, e3, hx⟩
    · exact h.new b (by rw [← e3]; exact e)
    · rw [e3] at e; cases e; omega
  · exact (h.fr.trans hf2).comp hf23 fun x hx e => by have := h.new x e.symm; omega
/-- Two blocks turn that stand ahead of all of these. -/
theorem LEr.turn {W W0 w w' : World} {es : List ER} {L : Option Addr} {N cl : Nat} {rs : List ER} {g : Option Nat} {more : List Value} {a : Nat} (hE : LEr W0 w es L N cl rs g more) (hf : Fr (fun x => x = a ∨ x = a + 1) w w') (ha : a + 1 < W0.heap.size) (hW : W.heap.size ≤ a) (hF : Fr (fun _ => False) W W0) : LEr W w' es L N cl rs g more :=
  ⟨hE.le, hE.like, hE.ow.fr hf (fun b e hb => by have := hE.new b e; omega), fun q hq => by
    obtain ⟨gq, hgq⟩ := hE.li q hq
    have hn := hgq.new
    have h1 := hgq.fr hf (by omega)
    exact ⟨gq, h1.ow, h1.len, by omega⟩, hE.small, fun b e => by have := hE.new b e; omega, (hF.trans hE.fr).comp hf fun x hx e => by omega⟩
theorem infoEnt : (Try.prog.info? tEnt).map (fun i => (i.zero, i.size, i.bytes)) = some (some (.agg #[.int .i64 0, .int .i64 0, .int .u64 0, .int .u64 0, .slice none 0 0]), 5, 56) := by kernel_rfl
end Go.Proofs.Ytlcjhbemgagchaa
end

section
/-
  proto's law: contract and reply, where both are the same; markedContract.
-/
namespace Go.Proofs.Ytlcjhbemgagchaa
open Go.RowKit
set_option linter.unusedVariables false
set_option linter.unusedSimpArgs false
theorem LEr.row {W w : World} {es : List ER} {L : Option Addr} {N cl : Nat} {rs : List ER} {g : Option Nat} {more : List Value} (h : LEr W w es L N cl rs g more) {i : Nat} (hi : i < rs.length) : ∃ b o, L = some ⟨b, o, none⟩ ∧ ∀ j u, (rs[i].cells)[j]? = some u → w.cell? ⟨b, o + i * 5 + j, none⟩ = some u := by
  have hat : ∀ j u, (rs[i].cells)[j]? = some u → (rs.flatMap ER.cells ++ more)[i * 5 + j]? = some u := fun j u hu => by
    have hj : j < 5 := by
      rcases Nat.lt_or_ge j 5 with h | h
      · exact h
      · rw [List.getElem?_eq_none (by rw [ER.cells_len]; exact h)] at hu; cases hu
    rw [List.getElem?_append_left (by rw [rows_len ER.cells 5 ER.cells_len]; omega), rows_get ER.cells 5 ER.cells_len _ _ _ hi hj]
    exact hu
  obtain ⟨b, o, hA, -, -⟩ := h.ow.look (hat 0 _ rfl)
  refine ⟨b, o, hA, fun j u hu => ?_⟩
  obtain ⟨b', o', hA', -, hc, -⟩ := h.ow.look (hat j u hu)
  rw [hA] at hA'
  cases hA'
  rwa [← Nat.add_assoc] at hc
theorem LEr.at_ {W w : World} {es : List ER} {L : Option Addr} {N cl : Nat} {rs : List ER} {g : Option Nat} {more : List Value} (h : LEr W w es L N cl rs g more) {r : ER} (hr : r ∈ rs) : r.at_ w := by
  obtain ⟨gi, hi⟩ := h.li r hr
  exact ⟨hi.sl, h.small r hr, hi.cap⟩
end Go.Proofs.Ytlcjhbemgagchaa
end

section
/-
  proto's law: contract and reply, where both are the same; markedContract. (printed by pr_like.py)
-/
namespace Go.Proofs.Ytlcjhbemgagchaa
open Go.RowKit
set_option linter.unusedVariables false
set_option linter.unusedSimpArgs false
abbrev tCon : TypeId := 29
abbrev tRep : TypeId := 35
structure CR.like (a b : CR) : Prop where
  num : a.num = b.num
  kind : a.kind = b.kind
  by_ : a.by_ = b.by_
  dl : a.dl = b.dl
  to_ : a.to_ = b.to_
  want : a.want = b.want
  pr : a.pr = b.pr
  rs : a.rs = b.rs
  st : a.st = b.st
  of_ : a.of_ = b.of_
  len : a.es.length = b.es.length
  es : ∀ i (h : i < a.es.length) (h' : i < b.es.length), (a.es[i]).like b.es[i]
/-- What is lent, as a contract. -/
def CR.lent (r : CR) (L : Option Addr) (cl : Nat) (rs : List ER) : CR := { r with A := L, c := cl, es := rs }
theorem LEr.con_like {W w : World} {r : CR} {L : Option Addr} {N cl : Nat} {rs : List ER} {g : Option Nat} {more : List Value} (h : LEr W w r.es L N cl rs g more) (hl : rs.length = r.es.length) : (r.lent L cl rs).like r :=
  ⟨rfl, rfl, rfl, rfl, rfl, rfl, rfl, rfl, rfl, rfl, hl, h.like⟩
theorem LEr.con_at {W w : World} {r : CR} {L : Option Addr} {cl : Nat} {rs : List ER} {g : Option Nat} {more : List Value} (h : LEr W w r.es L (r.n + 2) cl rs g more) (hl : rs.length = r.n) (hle : r.n ≤ 2513169434843) : (r.lent L cl rs).at_ w := by
  refine ⟨?_, hle, ?_, fun e he => h.at_ he⟩
  · have := (h.ow.take (k := r.n) (by omega)).sl
    rwa [List.take_left' (by rw [rows_len ER.cells 5 ER.cells_len, hl])] at this
  · have := h.ow.cap
    exact ⟨by have := this.1; show r.n ≤ cl; omega, by have := this.2; unfold maxLen at this; exact this⟩

structure RR.like (a b : RR) : Prop where
  id : a.id = b.id
  err : a.err = b.err
  num : a.num = b.num
  co : a.co = b.co
  items : a.items = b.items
  txt : a.txt = b.txt
  bits : a.bits = b.bits
  k : a.k.like b.k

theorem ER.like.ok {a b : ER} (h : a.like b) : a.ok = b.ok := by
  obtain ⟨h1, h2, h3, h4, h5⟩ := h
  unfold ER.ok; rw [h1, h2, h5]
theorem ER.like.form {a b : ER} (h : a.like b) : a.form = b.form := by
  obtain ⟨h1, h2, h3, h4, h5⟩ := h
  unfold ER.form ER.fl; rw [h1, h2, h3, h4, h5]
theorem CR.like.map {β : Type} {a b : CR} (h : a.like b) (f : ER → β) (hf : ∀ x y : ER, x.like y → f x = f y) : a.es.map f = b.es.map f :=
  List.ext_getElem (by simp [h.len]) fun i h1 h2 => by
    rw [List.getElem_map, List.getElem_map]
    exact hf _ _ (h.es i _ _)
theorem CR.like.ok {a b : CR} (h : a.like b) : a.ok = b.ok := by
  have e : ∀ l : List ER, l.all ER.ok = (l.map ER.ok).all (fun x => x) := fun l => by rw [List.all_map]; rfl
  unfold CR.ok CR.seven
  rw [e, e, h.map ER.ok (fun _ _ => ER.like.ok), h.len, h.num, h.kind, h.by_, h.dl, h.to_, h.want, h.of_]
theorem CR.like.form {a b : CR} (h : a.like b) : a.form = b.form := by
  unfold CR.form CR.fl
  rw [h.map ER.form (fun _ _ => ER.like.form), h.num, h.kind, h.by_, h.dl, h.to_, h.want, h.of_, h.pr, h.rs, h.st]
theorem CR.like.wf {a b : CR} (h : a.like b) (hb : b.wf) : a.wf := by
  refine ⟨by rw [h.pr]; exact hb.pr, by rw [h.rs]; exact hb.rs, by rw [h.st]; exact hb.st, fun e he => ?_⟩
  obtain ⟨i, hi, rfl⟩ := List.getElem_of_mem he
  have hi' : i < b.es.length := by rw [← h.len]; exact hi
  obtain ⟨h1, h2, h3, h4, h5⟩ := h.es i hi hi'
  have hw := hb.es _ (List.getElem_mem hi')
  exact ⟨by rw [h3]; exact hw.co, by rw [h4]; exact hw.pr⟩
theorem RR.like.ok {a b : RR} (h : a.like b) : a.ok = b.ok := by
  unfold RR.ok
  rw [h.id, h.err, h.num, h.items, h.txt, h.k.ok]
theorem RR.like.form {a b : RR} (h : a.like b) : a.form = b.form := by
  unfold RR.form RR.fl
  rw [h.id, h.err, h.num, h.co, h.items, h.txt, h.bits, h.k.form]
theorem RR.like.wf {a b : RR} (h : a.like b) (hb : b.wf) : a.wf := by
  refine ⟨by rw [h.co]; exact hb.co, by rw [h.bits]; exact hb.bits, h.k.wf hb.k, by rw [h.txt]; exact hb.txt⟩

end Go.Proofs.Ytlcjhbemgagchaa
end
