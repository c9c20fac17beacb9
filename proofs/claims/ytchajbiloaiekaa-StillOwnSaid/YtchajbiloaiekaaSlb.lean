/-
  The law's helpers of chapter 12: num, place, fit, same.
-/
import Derived.Test.YtchajbiloaiekaaSla
import Derived.Laws.IdiomStrings
import Derived.Laws.BytesString
namespace Go.Proofs.Ytchajbiloaiekaa
open Go.RowKit
set_option linter.unusedVariables false
/-- The string of some bytes. -/
def strk (xs : List Nat) : ByteArray := ⟨(xs.map UInt8.ofNat).toArray⟩
theorem strk_size (xs : List Nat) : (strk xs).size = xs.length := by simp [strk, ByteArray.size]
theorem u8k_back {y : Nat} (h : y < 256) : ((UInt8.ofNat y).toNat : Int) = (y : Int) := by
  simp; omega
theorem convk_bs (w : World) (A : Option Addr) (n c : Nat) (xs : List Nat) (h256 : ∀ x ∈ xs, x < 256) (hS : Sl w 1 A n (xs.map bn)) : (convert 22 9 (.slice A n c)).run Try.prog w = .ok (.string (strk xs)) w := by
  have hn : n = xs.length := by have := hS.1; simpa using this.symm
  cases A with
  | none =>
    have h0 : n = 0 := by
      rcases Nat.eq_zero_or_pos n with h | h
      · exact h
      · obtain ⟨b, o, e, _⟩ := hS.2 h; cases e
    subst h0
    obtain rfl : xs = [] := List.eq_nil_of_length_eq_zero hn.symm
    rw [run_convert_bytes_string w _ _ _ none 0 c Try.underlying22 Try.underlying5 Try.underlying9]
    simp [Conv.bytesToString, strk, Sem.run_pure]
    rfl
  | some a =>
    have h := run_convert_bytes_back (P := Try.prog) w 22 9 5 a c (xs.map UInt8.ofNat) Try.underlying22 Try.underlying5 Try.underlying9 (fun j hj => by
      have hj' : j < xs.length := by simpa using hj
      obtain ⟨b, o, e, hc⟩ := hS.2 (by omega)
      cases e
      rw [Addr.add_lit]
      rw [hc j (bn xs[j]) (by simp [hj'])]
      have := h256 _ (List.getElem_mem hj')
      simp [bn]; omega)
    rw [List.length_map, ← hn] at h
    exact h
theorem same12_true (w : World) (xs : List Nat) (hx : ∀ x ∈ xs, x < 256) (A B : Option Addr) (n m c d : Nat) (hA : Sl w 1 A n (xs.map bn)) (hB : Sl w 1 B m (xs.map bn)) :
    Calls Try.prog 13 #[.slice A n c, .slice B m d] w fun e w' => e = .returned (.bool true) ∧ w = w' := by
  have h1 := convk_bs w A n c xs hx hA
  have h2 := convk_bs w B m d xs hx hB
  obtain ⟨s, hs⟩ : ∃ s, strk xs = s := ⟨_, rfl⟩
  rw [hs] at h1 h2
  clear hA hB hs hx
  go_enter Try.func13, Try.ntmps13
  go_wp2
  go_ret
  exact ⟨rfl, rfl⟩
theorem num12_any (w : World) (x : Int) : Calls Try.prog 11 #[.int .i64 x] w fun e w' => e = .returned (.int .i64 x) ∧ w = w' := by
  go_enter Try.func11, Try.ntmps11
  go_wp2
  go_ret
  exact ⟨rfl, rfl⟩
theorem place_any (w : World) (k n : Int) (n1 : 1 ≤ n) (n2 : n ≤ 4611686018427387904) :
    Calls Try.prog 7 #[.int .i64 k, .int .i64 n] w fun e w' => e = .returned (.int .i64 (k % n)) ∧ w = w' := by
  have h0 := Int.emod_nonneg k (show n ≠ 0 by omega)
  have h1 := Int.emod_lt_of_pos k (show 0 < n by omega)
  have tb : k.tmod n = k % n ∨ (k.tmod n = k % n - n) := by
    rw [Int.tmod_eq_emod]; split
    · exact .inl (by omega)
    · exact .inr (by omega)
  by_cases hk : 0 ≤ k.tmod n
  · have e1 : k.tmod n = k % n := by omega
    clear tb
    go_enter Try.func7, Try.ntmps7
    go_wp2
    go_ret
    exact ⟨rfl, rfl⟩
  · have e2 : -n ≤ k.tmod n := by omega
    have e1 : Hid (k % n = k.tmod n + n) := show k % n = k.tmod n + n by omega
    clear tb
    go_enter Try.func7, Try.ntmps7
    go_wp2
    go_ret
    exact ⟨by rw [e1.out]; rfl, rfl⟩
theorem place_nat (w : World) (k : Int) (n : Nat) (n1 : 1 ≤ n) (n2 : n ≤ 1000000) : ∃ r : Nat, r < n ∧
    Calls Try.prog 7 #[.int .i64 k, .int .i64 (n : Int)] w fun e w' => e = .returned (.int .i64 (r : Int)) ∧ w = w' := by
  have h0 := Int.emod_nonneg k (show (n : Int) ≠ 0 by omega)
  have h1 := Int.emod_lt_of_pos k (show (0 : Int) < n by omega)
  obtain ⟨r, hr⟩ : ∃ r : Nat, k % (n : Int) = (r : Int) := ⟨(k % (n : Int)).toNat, by omega⟩
  refine ⟨r, by omega, ?_⟩
  rw [← hr]
  exact place_any w k n (by omega) (by omega)
/-- Bytes cut to what a place of n sectors takes. -/
def fitN (p : List Nat) (n : Nat) : List Nat := p.take (64 * (n - 1))
/-- New bytes of a call. -/
def NewBytes (w : World) (xs : List Nat) (e : Ending) (w' : World) : Prop :=
  ∃ A c g, e = .returned (.slice A xs.length c) ∧ Ow w' tU8 1 A xs.length c (xs.map bn) g ∧ (∀ b, g = some b → w.heap.size ≤ b) ∧ Fr (fun _ => False) w w'
set_option maxHeartbeats 1000000 in
theorem fit_any (w : World) (n : Nat) (hn : 2 ≤ n ∧ n ≤ 70000) (A : Option Addr) (m c : Nat) (p : List Nat) (hmc : m ≤ c) (hm : m ≤ 140737488355000) (hA : Sl w 1 A m (p.map bn)) :
    Calls Try.prog 8 #[.slice A m c, .int .i64 (n : Int)] w (NewBytes w (fitN p n)) := by
  obtain ⟨i0, hi, hz0, hz1, hz2⟩ := info_parts infoU8
  have hl : p.length = m := by have := hA.1; simpa using this
  have hf1 : Fr (fun _ => False) w (w.alloc (.cells #[] tU8)) := (Fr.refl _ _).alloc _
  have hO : Ow (w.alloc (.cells #[] tU8)) tU8 1 (some ⟨w.heap.size, 0, none⟩) 0 0 [] (some w.heap.size) := Ow.made w tU8 1 0 0 #[] [] rfl (Nat.le_refl _) (Nat.zero_le _) rfl
  obtain ⟨ms, hms⟩ : ∃ ms, 64 * (n - 1) = ms := ⟨_, rfl⟩
  have i1 : IntKind.i64.wrap ((n : Int) - 1) = (n : Int) - 1 := IntWalk.i64_in _ (by omega)
  have i2 : IntKind.i64.wrap (64 * ((n : Int) - 1)) = (ms : Int) := by rw [show 64 * ((n : Int) - 1) = (ms : Int) by omega]; exact IntWalk.i64_in _ (by omega)
  unfold fitN
  rw [hms]
  have hA1 := hA.below hf1 (fun _ _ => id)
  by_cases hgt : ms < m
  · have i3 : (ms : Int) < (m : Int) := by omega
    have i4 : (0 : Int) ≤ (ms : Int) := by omega
    have i5 : (ms : Int) ≤ (c : Int) := by omega
    have hS : Sl (w.alloc (.cells #[] tU8)) 1 A ms ((p.take ms).map bn) := by
      refine ⟨by simp [hl]; omega, fun h0 => ?_⟩
      obtain ⟨b, o, e, h⟩ := hA1.2 (by omega)
      refine ⟨b, o, e, fun j u hu => h j u ?_⟩
      rw [List.map_take] at hu
      have hj : j < ms := by have := (List.getElem?_eq_some_iff.1 hu).1; rw [List.length_take] at this; omega
      rwa [List.getElem?_take_of_lt hj] at hu
    have hpl : (p.take ms).length = ms := by rw [List.length_take]; omega
    obtain ⟨bb, oo, rfl, -⟩ := hA1.2 (by omega)
    obtain ⟨q, hq⟩ : ∃ q, p.take ms = q := ⟨_, rfl⟩
    rw [hq] at hS hpl ⊢
    have Hpl := hide hpl
    have Hs := hide (show ms ≤ 140737488355000 by omega)
    clear hA hA1 hl hpl hq hms
    go_enter Try.func8, Try.ntmps8
    go_wp2_with (first | (at_builtin; go_loud (refine wpList_append_ow _ rfl _ _ 22 rfl 5 i0 (.int .u8 0) 1 1 Try.underlying22 hi hz0 hz1 hz2 rfl (by decide) _ _ _ _ _ rfl hO _ _ _ _ rfl hS (bn_one _) (by unfold maxLen; have := Hs.out; omega) (by have := Hs.out; omega) ?_)) | go_in)
    intro A2 c2 w2 g2 hA2 hf2 hg2
    have fin : NewBytes w q (.returned (.slice A2 q.length c2)) w2 := by
      have hsz : (w.alloc (.cells #[] tU8)).heap.size = w.heap.size + 1 := by simp
      refine ⟨A2, c2, g2, rfl, ?_, fun b e => ?_, hf1.comp hf2 fun b hb e => by cases e; omega⟩
      · rw [Hpl.out]; simpa using hA2
      · rcases hg2 with h | ⟨b', h, hb'⟩
        · rw [h] at e; cases e; exact Nat.le_refl _
        · rw [h] at e; cases e; have h3 : w.heap.size + 1 ≤ b := by simpa using hb'
          omega
    have Fin := hide fin
    clear hA2 hf2 hg2 fin hS hO hf1
    rw [Hpl.out] at Fin
    go_wp2_with fail
    go_ret
    first | exact Fin.out | (simp only [Nat.zero_add] at *; exact Fin.out)
  · have i3 : ¬ (ms : Int) < (m : Int) := by omega
    have hS : Sl (w.alloc (.cells #[] tU8)) 1 A m ((p.take ms).map bn) := by rw [List.take_of_length_le (by omega)]; exact hA1
    have hpl : (p.take ms).length = m := by rw [List.length_take]; omega
    obtain ⟨q, hq⟩ : ∃ q, p.take ms = q := ⟨_, rfl⟩
    rw [hq] at hS hpl ⊢
    have Hpl := hide hpl
    have Hs := hide (show m ≤ 140737488355000 by omega)
    clear hA hA1 hl hpl hq hms
    go_enter Try.func8, Try.ntmps8
    go_wp2_with (first | (at_builtin; go_loud (refine wpList_append_ow _ rfl _ _ 22 rfl 5 i0 (.int .u8 0) 1 1 Try.underlying22 hi hz0 hz1 hz2 rfl (by decide) _ _ _ _ _ rfl hO _ _ _ _ rfl hS (bn_one _) (by unfold maxLen; have := Hs.out; omega) (by have := Hs.out; omega) ?_)) | go_in)
    intro A2 c2 w2 g2 hA2 hf2 hg2
    have fin : NewBytes w q (.returned (.slice A2 q.length c2)) w2 := by
      have hsz : (w.alloc (.cells #[] tU8)).heap.size = w.heap.size + 1 := by simp
      refine ⟨A2, c2, g2, rfl, ?_, fun b e => ?_, hf1.comp hf2 fun b hb e => by cases e; omega⟩
      · rw [Hpl.out]; simpa using hA2
      · rcases hg2 with h | ⟨b', h, hb'⟩
        · rw [h] at e; cases e; exact Nat.le_refl _
        · rw [h] at e; cases e; have h3 : w.heap.size + 1 ≤ b := by simpa using hb'
          omega
    have Fin := hide fin
    clear hA2 hf2 hg2 fin hS hO hf1
    rw [Hpl.out] at Fin
    go_wp2_with fail
    go_ret
    first | exact Fin.out | (simp only [Nat.zero_add] at *; exact Fin.out)
section
variable {w : World} {q p fr n t0 t1 : Nat}
theorem turns_any (h : SAt w q p fr n t0 t1) : Calls Try.prog 14 #[.pointer (some ⟨q, 0, none⟩)] w fun e w' => e = .returned (.agg #[.int .i64 (t0 : Int), .int .i64 (t1 : Int)]) ∧ Fr (fun _ => False) w w' := by
  have hf1 : Fr (fun _ => False) w (w.alloc (.cells #[.int .i64 0, .int .i64 0] 38)) := (Fr.refl _ _).alloc _
  have h1 : SAt (w.alloc (.cells #[.int .i64 0, .int .i64 0] 38)) q p fr n t0 t1 := h.fr hf1 id
  have c1 := h1.cell' (i := 3) (v := .int .i64 (t0 : Int)) rfl
  have c2 := h1.cell' (i := 4) (v := .int .i64 (t1 : Int)) rfl
  have hB := Bl.new w 38 #[.int .i64 (t0 : Int), .int .i64 (t1 : Int)]
  have HF : Hid (Fr (fun _ => False) w (w.alloc (.cells #[.int .i64 (t0 : Int), .int .i64 (t1 : Int)] 38))) := (Fr.refl _ _).alloc _
  have HB := hide hB
  clear h h1 hf1 hB
  go_enter Try.func14, Try.ntmps14
  go_wp2_with fail
  refine bodyPost_ret (results_cell_row rfl _ _ w.heap.size 38 #[.int .i64 (t0 : Int), .int .i64 (t1 : Int)] (0, 0) _ rfl HB.out Try.underlying38 rfl (by kernel_rfl)) rfl ?_
  exact ⟨rfl, HF.out⟩
end
end Go.Proofs.Ytchajbiloaiekaa
