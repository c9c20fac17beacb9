/-
  Texts merged into one, to keep the claim small: Pr2, PrK0, TlvL6, TlvOne0.
-/
import Derived.Test.YtlcjhbemgagchaaMr19
import Derived.Test.YtlcjhbemgagchaaMr11
import Derived.Test.YtlcjhbemgagchaaMr16
import Derived.Test.YtlcjhbemgagchaaMr10
section
/-
  proto: numbers, entry, contract, reply (may it be?).
-/
namespace Go.Proofs.Ytlcjhbemgagchaa
open Go.RowKit
set_option linter.unusedVariables false
set_option linter.unusedSimpArgs false
structure ER.at_ (w : World) (r : ER) : Prop where
  sl : Sl w 1 r.A r.n (r.ws.map iv)
  le : r.n ≤ 17592186043904
  cap : r.n ≤ r.c ∧ r.c ≤ 9223372036854775807
structure CR.at_ (w : World) (r : CR) : Prop where
  sl : Sl w 5 r.A r.n (r.es.flatMap ER.cells)
  le : r.n ≤ 2513169434843
  cap : r.n ≤ r.c ∧ r.c ≤ 9223372036854775807
  es : ∀ e ∈ r.es, e.at_ w
structure RR.at_ (w : World) (r : RR) : Prop where
  sl : Sl w 1 r.A r.n (r.items.map iv)
  le : r.n ≤ 17592186043904
  cap : r.n ≤ r.c ∧ r.c ≤ 9223372036854775807
  k : r.k.at_ w
theorem Sl.quiet {w w' : World} {s n : Nat} {A : Option Addr} {xs : List Value} (h : Sl w s A n xs) (hf : Fr (fun _ => False) w w') : Sl w' s A n xs := h.below hf fun _ _ => id
theorem ER.at_.quiet {w w' : World} {r : ER} (h : r.at_ w) (hf : Fr (fun _ => False) w w') : r.at_ w' := ⟨h.sl.quiet hf, h.le, h.cap⟩
theorem CR.at_.quiet {w w' : World} {r : CR} (h : r.at_ w) (hf : Fr (fun _ => False) w w') : r.at_ w' := ⟨h.sl.quiet hf, h.le, h.cap, fun e he => (h.es e he).quiet hf⟩
theorem RR.at_.quiet {w w' : World} {r : RR} (h : r.at_ w) (hf : Fr (fun _ => False) w w') : r.at_ w' := ⟨h.sl.quiet hf, h.le, h.cap, h.k.quiet hf⟩
theorem Sl.ilen {w : World} {A : Option Addr} {n : Nat} {xs : List Int} (h : Sl w 1 A n (xs.map iv)) : n = xs.length := by have := h.1; simpa using this.symm
theorem CR.at_.len {w : World} {r : CR} (h : r.at_ w) : r.n = r.es.length := by
  have := h.sl.1
  rw [rows_len ER.cells 5 ER.cells_len] at this
  omega
theorem CR.at_.row {w : World} {r : CR} (h : r.at_ w) {i : Nat} (hi : i < r.es.length) : ∃ b o, r.A = some ⟨b, o, none⟩ ∧ ∀ j u, (r.es[i].cells)[j]? = some u → w.cell? ⟨b, o + i * 5 + j, none⟩ = some u := by
  obtain ⟨b, o, hA, -⟩ := h.sl.at_ (j := i * 5 + 0) (u := .int .i64 r.es[i].acc) (by rw [rows_get ER.cells 5 ER.cells_len _ _ _ hi (by omega)]; rfl)
  refine ⟨b, o, hA, fun j u hu => ?_⟩
  have hj : j < 5 := by
    rcases Nat.lt_or_ge j 5 with h | h
    · exact h
    · rw [List.getElem?_eq_none (by rw [ER.cells_len]; exact h)] at hu; cases hu
  obtain ⟨b', o', hA', hc⟩ := h.sl.at_ (j := i * 5 + j) (u := u) (by rw [rows_get ER.cells 5 ER.cells_len _ _ _ hi hj]; exact hu)
  rw [hA] at hA'
  cases hA'
  rwa [← Nat.add_assoc] at hc

set_option maxHeartbeats 2000000 in
set_option maxRecDepth 4000 in
theorem numbers_any (w : World) (xs : List Int) (A : Option Addr) (n c : Nat) (hn : n ≤ 17592186043904) (hA : Sl w 1 A n (xs.map iv)) :
    Calls Try.prog 104 #[.slice A n c] w fun e w' => e = .returned (.bool (okL xs)) ∧ w = w' := by
  have Hn := hide (hA.ilen)
  have HA := hide hA
  clear hA
  go_enter Try.func104, Try.ntmps104
  go_wp2_with fail
  go_loopw [7] (fun vi wr => ∃ j : Nat, j ≤ n ∧ vi = .int .i64 (j : Int) ∧ Hid (okL xs = okL (xs.drop j)) ∧ Hid (wr = w)) (fun vi _ => n - (intOf vi).toNat)
  case atStart => exact ⟨0, Nat.zero_le _, rfl, rfl, rfl⟩
  case round =>
    obtain ⟨j, hj, rfl, hk, hw⟩ := hrel
    have hw2 := hw.out
    subst hw2
    by_cases hlt : j < n
    · have hjl : j < xs.length := by rw [← Hn.out]; exact hlt
      obtain ⟨z, hz⟩ : ∃ z, xs[j] = z := ⟨_, rfl⟩
      have hd : xs.drop j = z :: xs.drop (j + 1) := by rw [List.drop_eq_getElem_cons hjl, hz]
      obtain ⟨b, o, rfl, c0⟩ := HA.out.at_ (j := j) (u := .int .i64 z) (by rw [List.getElem?_map, List.getElem?_eq_getElem hjl, hz]; rfl)
      have i0 : (0 : Int) ≤ (j : Int) := by omega
      have i1 : (j : Int) < (n : Int) := by omega
      have q1 : IntKind.i64.wrap ((j : Int) + 1) = ((j + 1 : Nat) : Int) := by rw [IntWalk.i64_in _ (by omega)]; omega
      have Hd := hide hd
      have Hlt := hide hlt
      clear hz hd hjl hlt hj
      by_cases h1 : z < 0
      · have hf : Hid (okL xs = false) := by
          show _ = _
          rw [hk.out, Hd.out]
          have : okN z = false := by simp [okN]; omega
          simp [okL, this]
        go_wp2_with fail
        go_ret
        exact ⟨by rw [hf.out]; rfl, rfl⟩
      by_cases h2 : (1125899906842624 : Int) < z
      · have hf : Hid (okL xs = false) := by
          show _ = _
          rw [hk.out, Hd.out]
          have : okN z = false := by simp [okN]; omega
          simp [okL, this]
        go_wp2_with fail
        go_ret
        exact ⟨by rw [hf.out]; rfl, rfl⟩
      have hk2 : Hid (okL xs = okL (xs.drop (j + 1))) := by
        show _ = _
        rw [hk.out, Hd.out]
        have : okN z = true := by simp [okN]; omega
        simp [okL, this]
      have h3 : decide (z < 0) = false := decide_eq_false h1
      have h4 : decide ((1125899906842624 : Int) < z) = false := decide_eq_false h2
      clear h1 h2 hk
      go_wp2_with fail
      have := Hlt.out
      exact ⟨⟨j + 1, by omega, by first | rfl | go_num, hk2, trivial⟩, by simp [intOf]; try omega⟩
    · have hf : Hid (okL xs = true) := by
        show _ = _
        rw [hk.out, List.drop_eq_nil_of_le (by rw [← Hn.out]; omega)]; rfl
      obtain rfl : j = n := by omega
      clear hlt hj
      go_wp2_with fail
      go_ret
      exact ⟨by rw [hf.out]; rfl, rfl⟩
/-- numbers, of a row that is laid for the call. -/
theorem numbers_lit (w0 : World) (xs : List Int) (g n : Nat) (hg : g = w0.heap.size) (hn : n = xs.length) (hb : n ≤ 100) (cs : Array Value) (hc : cs.toList = xs.map iv) {b : Bool} (hr : okL xs = b) :
    Calls Try.prog 104 #[.slice (some ⟨g, 0, none⟩) n n] (w0.alloc (.cells cs 3)) fun e w' => e = .returned (.bool b) ∧ w0.alloc (.cells cs 3) = w' := by
  subst hg hr
  refine numbers_any _ xs _ n n (by omega) ?_
  rw [← hc]
  refine Sl.row w0 cs 3 1 n ?_
  rw [← Array.length_toList, hc, List.length_map, hn]; omega
set_option maxHeartbeats 2000000 in
set_option maxRecDepth 4000 in
theorem entry_any (w : World) (r : ER) (h : r.at_ w) :
    Calls Try.prog 105 #[.agg #[.int .i64 r.acc, .int .i64 r.item, .int .u64 (r.co : Int), .int .u64 (r.pr : Int), .slice r.A r.n r.c]] w fun e w' => e = .returned (.bool r.ok) ∧ Fr (fun _ => False) w w' := by
  obtain ⟨acc, item, co, pr, A, n, c, ws⟩ := r
  have hlen : n = ws.length := h.sl.ilen
  have hle : n ≤ 17592186043904 := h.le
  have hsl := hide h.sl
  simp only at hsl ⊢
  have hN2 : ∀ w1 : World, Fr (fun _ => False) w w1 → Calls Try.prog 104 #[.slice A n c] w1 fun e w' => e = .returned (.bool (okL ws)) ∧ w1 = w' := fun w1 hf => numbers_any w1 ws A n c hle (hsl.out.quiet hf)
  have HN2 := hide hN2
  have Hlen := hide hlen
  clear hN2 hlen h hsl
  cases h1 : okL [acc, item] with
  | false =>
    have hr : Hid (ER.ok ⟨acc, item, co, pr, A, n, c, ws⟩ = false) := by show ER.ok _ = _; simp [ER.ok, h1]
    have C1 := numbers_lit (w.alloc (.cells #[.int .i64 acc, .int .i64 item, .int .u64 (co : Int), .int .u64 (pr : Int), .slice A n c] 26)) [acc, item] (w.heap.size + 1) 2 (by simp) rfl (by omega) #[.int .i64 acc, .int .i64 item] rfl h1
    have HC1 := hide C1
    clear h1 C1
    go_enter Try.func105, Try.ntmps105
    go_wp2_with fail
    refine HC1.out.mono ?_
    rintro e w' ⟨rfl, rfl⟩
    go_wp2_with fail
    go_ret
    exact ⟨by rw [hr.out]; rfl, ((Fr.refl _ _).alloc _).alloc _⟩
  | true =>
    have C1 := numbers_lit (w.alloc (.cells #[.int .i64 acc, .int .i64 item, .int .u64 (co : Int), .int .u64 (pr : Int), .slice A n c] 26)) [acc, item] (w.heap.size + 1) 2 (by simp) rfl (by omega) #[.int .i64 acc, .int .i64 item] rfl h1
    have HC1 := hide C1
    have H1 := hide h1
    clear h1 C1
    by_cases h2 : 16 < n
    · have hr : Hid (ER.ok ⟨acc, item, co, pr, A, n, c, ws⟩ = false) := by
        have : decide (ws.length ≤ 16) = false := decide_eq_false (by have := Hlen.out; omega)
        show ER.ok _ = _; simp only [ER.ok, this, Bool.and_false, Bool.false_and]
      have i2 : decide ((n : Int) ≤ 16) = false := decide_eq_false (by omega)
      have i3 : decide (n ≤ 16) = false := decide_eq_false (by omega)
      clear h2
      go_enter Try.func105, Try.ntmps105
      go_wp2_with fail
      refine HC1.out.mono ?_
      rintro e w' ⟨rfl, rfl⟩
      go_wp2_with fail
      go_ret
      exact ⟨by rw [hr.out]; rfl, ((Fr.refl _ _).alloc _).alloc _⟩
    · have hr : Hid (ER.ok ⟨acc, item, co, pr, A, n, c, ws⟩ = okL ws) := by
        have : decide (ws.length ≤ 16) = true := decide_eq_true (by have := Hlen.out; omega)
        show ER.ok _ = _; simp only [ER.ok, this, H1.out, Bool.true_and]
      have i2 : decide ((n : Int) ≤ 16) = true := decide_eq_true (by omega)
      have i3 : decide (n ≤ 16) = true := decide_eq_true (by omega)
      clear h2
      go_enter Try.func105, Try.ntmps105
      go_wp2_with fail
      refine HC1.out.mono ?_
      rintro e w' ⟨rfl, rfl⟩
      go_wp2_with fail
      refine (HN2.out _ (((Fr.refl _ _).alloc _).alloc _)).mono ?_
      rintro e w' ⟨rfl, rfl⟩
      go_wp2_with fail
      all_goals go_ret
      all_goals exact ⟨by rw [hr.out]; rfl, ((Fr.refl _ _).alloc _).alloc _⟩
end Go.Proofs.Ytlcjhbemgagchaa
end

section
/-
  proto: a command that can be read.
-/
namespace Go.Proofs.Ytlcjhbemgagchaa
structure KC.at_ (w : World) (r : KC) : Prop where
  e : r.e.at_ w
  k : r.k.at_ w
theorem KC.at_.quiet {w w' : World} {r : KC} (h : r.at_ w) (hf : Fr (fun _ => False) w w') : r.at_ w' := ⟨h.e.quiet hf, h.k.quiet hf⟩
end Go.Proofs.Ytlcjhbemgagchaa
end

section
/-
  TlvLists: the walk.
-/
namespace Go.Proofs.Ytlcjhbemgagchaa
open Go.RowKit
set_option linter.unusedVariables false
attribute [local go_sem ↓] Go.wp_at_zero Go.wp_at_succ

theorem LentAll.rows {w0 w : World} {xss : List (List Nat)} {L : Option Addr} {n c : Nat} {rs : List BS} {g : Option Nat} (h : LentAll w0 w xss L n c rs g) (hn : n = xss.length) :
    (rs.take n).map (·.xs) = xss ∧ (rs.take n).length = n ∧ Ow w 22 1 L n c ((rs.take n).map BS.cell) g ∧ BSs w 5 w0.heap.size (rs.take n) := by
  obtain ⟨h1, h2, h3, h4⟩ := h
  have hl : rs.length = n + 2 := by have := congrArg List.length h1; simp at this; omega
  refine ⟨by rw [List.map_take, h1, hn, List.take_left], by simp; omega, ?_, h4.sub (List.take_sublist _ _)⟩
  have := h2.take (k := n) (by omega)
  rwa [Nat.mul_one, ← List.map_take] at this
theorem LentAll.lat {w0 w : World} {xss : List (List Nat)} {L : Option Addr} {n c : Nat} {rs : List BS} {g : Option Nat} (h : LentAll w0 w xss L n c rs g) (hn : n = xss.length) : LAt w w.heap.size L n xss := by
  obtain ⟨h1, h2, h3, h4⟩ := h.rows hn
  have := h4.lat' h3
  rwa [h1] at this
theorem LentAll.quiet {w0 w w' : World} {xss : List (List Nat)} {L : Option Addr} {n c : Nat} {rs : List BS} {g : Option Nat} (h : LentAll w0 w xss L n c rs g) (hf : Fr (fun _ => False) w w') : LentAll w0 w' xss L n c rs g :=
  ⟨h.1, h.2.1.fr hf (fun _ _ => id), h.2.2.1, h.2.2.2.quiet hf⟩
theorem LentAll.range {w0 w : World} {xss : List (List Nat)} {L : Option Addr} {n c : Nat} {rs : List BS} {g : Option Nat} (h : LentAll w0 w xss L n c rs g) : ∀ x, (some x = g ∨ ∃ r ∈ rs.take n, some x = r.g) → w0.heap.size ≤ x ∧ x < w.heap.size := by
  rintro x (e | ⟨r, hr, e⟩)
  · exact ⟨h.2.2.1 x e.symm, h.2.1.lt x e.symm⟩
  · have hr' := List.mem_of_mem_take hr
    exact ⟨h.2.2.2.new r hr' x e.symm, (h.2.2.2.own r hr').lt x e.symm⟩
theorem Told.range {bs : List Nat} {w w' : World} {rs : List BS} {A : Option Addr} {k c : Nat} {g : Option Nat} (h : Told bs w w' rs A k c g) : ∀ x, (some x = g ∨ ∃ r ∈ rs, some x = r.g) → w.heap.size ≤ x ∧ x < w'.heap.size := by
  rintro x (e | ⟨r, hr, e⟩)
  · exact ⟨h.new x e.symm, h.ow.lt x e.symm⟩
  · exact ⟨h.own.new r hr x e.symm, (h.own.own r hr).lt x e.symm⟩
theorem Told.lat {bs : List Nat} {w w' : World} {rs : List BS} {A : Option Addr} {k c : Nat} {g : Option Nat} (h : Told bs w w' rs A k c g) : LAt w' w'.heap.size A k ((itemsAll bs).1.map (GF.val bs)) := by
  have := h.own.lat' h.ow
  rwa [h.eq] at this
/-- What was told lies in blocks from w's size to w''s. -/
theorem Told.lat_fr {bs : List Nat} {w w' w'' : World} {rs : List BS} {A : Option Addr} {k c : Nat} {g : Option Nat} {S : Nat → Prop} (h : Told bs w w' rs A k c g) (hf : Fr S w' w'') (hS : ∀ x, w.heap.size ≤ x → x < w'.heap.size → ¬ S x) : LAt w'' w''.heap.size A k ((itemsAll bs).1.map (GF.val bs)) := by
  have h1 := h.own.fr hf hS
  have h2 := h.ow.fr hf (fun b e => hS b (h.new b e) (h.ow.lt b e))
  have := h1.lat' h2
  rwa [h.eq] at this
theorem vals_len {bs : List Nat} {N : Nat} (h : bs.length ≤ N) : ∀ x ∈ (itemsAll bs).1.map (GF.val bs), x.length ≤ N := by
  intro x hx
  obtain ⟨F, hF, rfl⟩ := List.mem_map.1 hx
  rw [GF.val_len (itemsAll_at bs F hF).2]
  have := (itemsAll_at bs F hF).2
  omega

end Go.Proofs.Ytlcjhbemgagchaa
end

section
/-
  TlvOne: what the walk wants: fields got as fields put, a beginning of bytes, a number read is below 2^64.
-/
namespace Go.Proofs.Ytlcjhbemgagchaa
open Go.RowKit
set_option linter.unusedVariables false

theorem FOs.fat {w : World} {bs : List Nat} {B : Nat} {rs : List FO} (h : FOs w bs B rs) {e : TypeId} {A : Option Addr} {n c : Nat} {g : Option Nat} (hO : Ow w e 2 A n c (rs.flatMap FO.tCells) g) : FAt w 2 A n (rs.map fun r => ((r.F.tag : Int), r.F.val bs)) := by
  have hn := hO.rowsLen FO.tCells_len (by omega)
  refine ⟨by simpa using hn, fun h0 => ?_⟩
  obtain ⟨b, o, hA, hg, _⟩ := hO.rowAt FO.tCells_len (k := 0) (by omega) (by omega)
  refine ⟨b, o, hA, fun i hi => ?_⟩
  have hi' : i < rs.length := by simpa using hi
  obtain ⟨b', o', hA', _, hc⟩ := hO.rowAt FO.tCells_len hi' (by omega)
  rw [hA] at hA'; cases hA'
  have ho := h.own _ (List.getElem_mem hi')
  have e : (rs.map fun r => ((r.F.tag : Int), r.F.val bs))[i] = ((rs[i].F.tag : Int), rs[i].F.val bs) := by simp
  rw [e]
  exact ⟨_, _, _, by simpa using (hc 0 _ rfl).1, (hc 1 _ rfl).1, ho.sl⟩
/-- A beginning of a slice. -/
theorem Sl.pre {w : World} {A : Option Addr} {n : Nat} {xs : List Value} (h : Sl w 1 A n xs) {t : Nat} (ht : t ≤ n) : Sl w 1 A t (xs.take t) := by
  have hl := h.1
  refine ⟨by rw [List.length_take]; omega, fun h0 => ?_⟩
  obtain ⟨b, o, hA, hc⟩ := h.2 (by omega)
  refine ⟨b, o, hA, fun j u hu => hc j u ?_⟩
  rw [List.getElem?_take] at hu
  split at hu
  · exact hu
  · cases hu

theorem readF_lt : ∀ (f k n : Nat) (l : List Nat) (N k' : Nat), readF f k n l = (N, k', 0) → k ≤ 9 → n < 128 ^ k → N < U64
  | 0, _, _, _, _, _, h, _, _ => by simp [readF] at h
  | f + 1, k, n, [], N, k', h, _, _ => by simp [readF] at h
  | f + 1, k, n, c :: l, N, k', h, hk, hn => by
    have h9 : (128 : Nat) ^ 9 = 9223372036854775808 := rfl
    have hm : c % 128 * 128 ^ k ≤ 127 * 128 ^ k := Nat.mul_le_mul_right _ (by omega)
    have hs : 128 ^ (k + 1) = 128 ^ k * 128 := Nat.pow_succ ..
    rw [readF] at h
    split at h
    · simp at h
    · rename_i hfar
      split at h
      · rename_i hc
        split at h
        · simp at h
        · simp only [Prod.mk.injEq] at h
          rw [← h.1]
          unfold U64
          by_cases h8 : k = 9
          · subst h8
            have : c % 128 * 128 ^ 9 ≤ 1 * 128 ^ 9 := Nat.mul_le_mul_right _ (by omega)
            omega
          · have : 128 ^ (k + 1) ≤ 128 ^ 9 := Nat.pow_le_pow_right (by omega) (by omega)
            omega
      · rename_i hc
        by_cases h8 : k = 9
        · exact absurd ⟨h8, by omega⟩ hfar
        · exact readF_lt f (k + 1) _ l N k' h (by omega) (by omega)
theorem readShort_lt {bs : List Nat} {a N : Nat} {t : Int} (h : readShort bs (a : Int) = (N, t, 0)) : N < U64 := by
  unfold readShort at h
  split at h
  · simp at h
  · simp only at h
    split at h
    · rename_i h0
      generalize hg : readF 10 0 0 (bs.drop (a : Int).toNat) = r at h0 h
      obtain ⟨x, y, z⟩ := r
      simp only at h0 h
      subst h0
      simp only [Prod.mk.injEq] at h
      rw [← h.1]
      exact readF_lt 10 0 0 _ _ _ hg (by omega) (by simp)
    · rename_i h0
      simp at h h0; omega
end Go.Proofs.Ytlcjhbemgagchaa
end
