/-
  Texts merged into one, to keep the claim small: Pr2.
-/
import Derived.Test.YtahhecendjfenaaMr30
/-
  proto: numbers, entry, contract, reply (may it be?).
-/
namespace Go.Proofs.Ytahhecendjfenaa
open Go.RowKit
set_option linter.unusedVariables false
set_option linter.unusedSimpArgs false
structure ER.at_ (w : World) (r : ER) : Prop where
  sl : Sl w 1 r.A r.n (r.ws.map iv)
  le : r.n ≤ 17592186043904
  cap : r.n ≤ r.c ∧ r.c ≤ 9223372036854775807
structure CR.at_ (w : World) (r : CR) : Prop where
  sl : Sl w 5 r.A r.n (r.es.flatMap ER.cells)
  le : r.n ≤ 2513169434843
  cap : r.n ≤ r.c ∧ r.c ≤ 9223372036854775807
  es : ∀ e ∈ r.es, e.at_ w
structure RR.at_ (w : World) (r : RR) : Prop where
  sl : Sl w 1 r.A r.n (r.items.map iv)
  le : r.n ≤ 17592186043904
  cap : r.n ≤ r.c ∧ r.c ≤ 9223372036854775807
  k : r.k.at_ w
theorem Sl.quiet {w w' : World} {s n : Nat} {A : Option Addr} {xs : List Value} (h : Sl w s A n xs) (hf : Fr (fun _ => False) w w') : Sl w' s A n xs := h.below hf fun _ _ => id
theorem ER.at_.quiet {w w' : World} {r : ER} (h : r.at_ w) (hf : Fr (fun _ => False) w w') : r.at_ w' := ⟨h.sl.quiet hf, h.le, h.cap⟩
theorem CR.at_.quiet {w w' : World} {r : CR} (h : r.at_ w) (hf : Fr (fun _ => False) w w') : r.at_ w' := ⟨h.sl.quiet hf, h.le, h.cap, fun e he => (h.es e he).quiet hf⟩
theorem RR.at_.quiet {w w' : World} {r : RR} (h : r.at_ w) (hf : Fr (fun _ => False) w w') : r.at_ w' := ⟨h.sl.quiet hf, h.le, h.cap, h.k.quiet hf⟩
theorem Sl.ilen {w : World} {A : Option Addr} {n : Nat} {xs : List Int} (h : Sl w 1 A n (xs.map iv)) : n = xs.length := by have := h.1; simpa using this.symm
theorem CR.at_.len {w : World} {r : CR} (h : r.at_ w) : r.n = r.es.length := by
  have := h.sl.1
  rw [rows_len ER.cells 5 ER.cells_len] at this
  omega
theorem CR.at_.row {w : World} {r : CR} (h : r.at_ w) {i : Nat} (hi : i < r.es.length) : ∃ b o, r.A = some ⟨b, o, none⟩ ∧ ∀ j u, (r.es[i].cells)[j]? = some u → w.cell? ⟨b, o + i * 5 + j, none⟩ = some u := by
  obtain ⟨b, o, hA, -⟩ := h.sl.at_ (j := i * 5 + 0) (u := .int .i64 r.es[i].acc) (by rw [rows_get ER.cells 5 ER.cells_len _ _ _ hi (by omega)]; rfl)
  refine ⟨b, o, hA, fun j u hu => ?_⟩
  have hj : j < 5 := by
    rcases Nat.lt_or_ge j 5 with h | h
    · exact h
    · rw [List.getElem?_eq_none (by rw [ER.cells_len]; exact h)] at hu; cases hu
  obtain ⟨b', o', hA', hc⟩ := h.sl.at_ (j := i * 5 + j) (u := u) (by rw [rows_get ER.cells 5 ER.cells_len _ _ _ hi hj]; exact hu)
  rw [hA] at hA'
  cases hA'
  rwa [← Nat.add_assoc] at hc

set_option maxHeartbeats 2000000 in
set_option maxRecDepth 4000 in
theorem numbers_any (w : World) (xs : List Int) (A : Option Addr) (n c : Nat) (hn : n ≤ 17592186043904) (hA : Sl w 1 A n (xs.map iv)) :
    Calls Try.prog 71 #[.slice A n c] w fun e w' => e = .returned (.bool (okL xs)) ∧ w = w' := by
  have Hn := hide (hA.ilen)
  have HA := hide hA
  clear hA
  go_enter Try.func71, Try.ntmps71
  go_wp2_with fail
  go_loopw [7] (fun vi wr => ∃ j : Nat, j ≤ n ∧ vi = .int .i64 (j : Int) ∧ Hid (okL xs = okL (xs.drop j)) ∧ Hid (wr = w)) (fun vi _ => n - (intOf vi).toNat)
  case atStart => exact ⟨0, Nat.zero_le _, rfl, rfl, rfl⟩
  case round =>
    obtain ⟨j, hj, rfl, hk, hw⟩ := hrel
    have hw2 := hw.out
    subst hw2
    by_cases hlt : j < n
    · have hjl : j < xs.length := by rw [← Hn.out]; exact hlt
      obtain ⟨z, hz⟩ : ∃ z, xs[j] = z := ⟨_, rfl⟩
      have hd : xs.drop j = z :: xs.drop (j + 1) := by rw [List.drop_eq_getElem_cons hjl, hz]
      obtain ⟨b, o, rfl, c0⟩ := HA.out.at_ (j := j) (u := .int .i64 z) (by rw [List.getElem?_map, List.getElem?_eq_getElem hjl, hz]; rfl)
      have i0 : (0 : Int) ≤ (j : Int) := by omega
      have i1 : (j : Int) < (n : Int) := by omega
      have q1 : IntKind.i64.wrap ((j : Int) + 1) = ((j + 1 : Nat) : Int) := by rw [IntWalk.i64_in _ (by omega)]; omega
      have Hd := hide hd
      have Hlt := hide hlt
      clear hz hd hjl hlt hj
      by_cases h1 : z < 0
      · have hf : Hid (okL xs = false) := by
          show _ = _
          rw [hk.out, Hd.out]
          have : okN z = false := by simp [okN]; omega
          simp [okL, this]
        go_wp2_with fail
        go_ret
        exact ⟨by rw [hf.out]; rfl, rfl⟩
      by_cases h2 : (1125899906842624 : Int) < z
      · have hf : Hid (okL xs = false) := by
          show _ = _
          rw [hk.out, Hd.out]
          have : okN z = false := by simp [okN]; omega
          simp [okL, this]
        go_wp2_with fail
        go_ret
        exact ⟨by rw [hf.out]; rfl, rfl⟩
      have hk2 : Hid (okL xs = okL (xs.drop (j + 1))) := by
        show _ = _
        rw [hk.out, Hd.out]
        have : okN z = true := by simp [okN]; omega
        simp [okL, this]
      have h3 : decide (z < 0) = false := decide_eq_false h1
      have h4 : decide ((1125899906842624 : Int) < z) = false := decide_eq_false h2
      clear h1 h2 hk
      go_wp2_with fail
      have := Hlt.out
      exact ⟨⟨j + 1, by omega, by first | rfl | go_num, hk2, trivial⟩, by simp [intOf]; try omega⟩
    · have hf : Hid (okL xs = true) := by
        show _ = _
        rw [hk.out, List.drop_eq_nil_of_le (by rw [← Hn.out]; omega)]; rfl
      obtain rfl : j = n := by omega
      clear hlt hj
      go_wp2_with fail
      go_ret
      exact ⟨by rw [hf.out]; rfl, rfl⟩
/-- numbers, of a row that is laid for the call. -/
theorem numbers_lit (w0 : World) (xs : List Int) (g n : Nat) (hg : g = w0.heap.size) (hn : n = xs.length) (hb : n ≤ 100) (cs : Array Value) (hc : cs.toList = xs.map iv) {b : Bool} (hr : okL xs = b) :
    Calls Try.prog 71 #[.slice (some ⟨g, 0, none⟩) n n] (w0.alloc (.cells cs 3)) fun e w' => e = .returned (.bool b) ∧ w0.alloc (.cells cs 3) = w' := by
  subst hg hr
  refine numbers_any _ xs _ n n (by omega) ?_
  rw [← hc]
  refine Sl.row w0 cs 3 1 n ?_
  rw [← Array.length_toList, hc, List.length_map, hn]; omega
set_option maxHeartbeats 2000000 in
set_option maxRecDepth 4000 in
theorem entry_any (w : World) (r : ER) (h : r.at_ w) :
    Calls Try.prog 83 #[.agg #[.int .i64 r.acc, .int .i64 r.item, .int .u64 (r.co : Int), .int .u64 (r.pr : Int), .slice r.A r.n r.c]] w fun e w' => e = .returned (.bool r.ok) ∧ Fr (fun _ => False) w w' := by
  obtain ⟨acc, item, co, pr, A, n, c, ws⟩ := r
  have hlen : n = ws.length := h.sl.ilen
  have hle : n ≤ 17592186043904 := h.le
  have hsl := hide h.sl
  simp only at hsl ⊢
  have hN2 : ∀ w1 : World, Fr (fun _ => False) w w1 → Calls Try.prog 71 #[.slice A n c] w1 fun e w' => e = .returned (.bool (okL ws)) ∧ w1 = w' := fun w1 hf => numbers_any w1 ws A n c hle (hsl.out.quiet hf)
  have HN2 := hide hN2
  have Hlen := hide hlen
  clear hN2 hlen h hsl
  cases h1 : okL [acc, item] with
  | false =>
    have hr : Hid (ER.ok ⟨acc, item, co, pr, A, n, c, ws⟩ = false) := by show ER.ok _ = _; simp [ER.ok, h1]
    have C1 := numbers_lit (w.alloc (.cells #[.int .i64 acc, .int .i64 item, .int .u64 (co : Int), .int .u64 (pr : Int), .slice A n c] 45)) [acc, item] (w.heap.size + 1) 2 (by simp) rfl (by omega) #[.int .i64 acc, .int .i64 item] rfl h1
    have HC1 := hide C1
    clear h1 C1
    go_enter Try.func83, Try.ntmps83
    go_wp2_with fail
    refine HC1.out.mono ?_
    rintro e w' ⟨rfl, rfl⟩
    go_wp2_with fail
    go_ret
    exact ⟨by rw [hr.out]; rfl, ((Fr.refl _ _).alloc _).alloc _⟩
  | true =>
    have C1 := numbers_lit (w.alloc (.cells #[.int .i64 acc, .int .i64 item, .int .u64 (co : Int), .int .u64 (pr : Int), .slice A n c] 45)) [acc, item] (w.heap.size + 1) 2 (by simp) rfl (by omega) #[.int .i64 acc, .int .i64 item] rfl h1
    have HC1 := hide C1
    have H1 := hide h1
    clear h1 C1
    by_cases h2 : 16 < n
    · have hr : Hid (ER.ok ⟨acc, item, co, pr, A, n, c, ws⟩ = false) := by
        have : decide (ws.length ≤ 16) = false := decide_eq_false (by have := Hlen.out; omega)
        show ER.ok _ = _; simp only [ER.ok, this, Bool.and_false, Bool.false_and]
      have i2 : decide ((n : Int) ≤ 16) = false := decide_eq_false (by omega)
      have i3 : decide (n ≤ 16) = false := decide_eq_false (by omega)
      clear h2
      go_enter Try.func83, Try.ntmps83
      go_wp2_with fail
      refine HC1.out.mono ?_
      rintro e w' ⟨rfl, rfl⟩
      go_wp2_with fail
      go_ret
      exact ⟨by rw [hr.out]; rfl, ((Fr.refl _ _).alloc _).alloc _⟩
    · have hr : Hid (ER.ok ⟨acc, item, co, pr, A, n, c, ws⟩ = okL ws) := by
        have : decide (ws.length ≤ 16) = true := decide_eq_true (by have := Hlen.out; omega)
        show ER.ok _ = _; simp only [ER.ok, this, H1.out, Bool.true_and]
      have i2 : decide ((n : Int) ≤ 16) = true := decide_eq_true (by omega)
      have i3 : decide (n ≤ 16) = true := decide_eq_true (by omega)
      clear h2
      go_enter Try.func83, Try.ntmps83
      go_wp2_with fail
      refine HC1.out.mono ?_
      rintro e w' ⟨rfl, rfl⟩
      go_wp2_with fail
      refine (HN2.out _ (((Fr.refl _ _).alloc _).alloc _)).mono ?_
      rintro e w' ⟨rfl, rfl⟩
      go_wp2_with fail
      all_goals go_ret
      all_goals exact ⟨by rw [hr.out]; rfl, ((Fr.refl _ _).alloc _).alloc _⟩
end Go.Proofs.Ytahhecendjfenaa
