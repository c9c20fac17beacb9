/-
  Texts merged into one, to keep the claim small: BulkL, StL.
-/
import Derived.Test.YtlcjhbemgagchaaMr4
import Derived.Test.YtlcjhbemgagchaaMr7
import Derived.Test.YtlcjhbemgagchaaMr2
section
/-
  A list of lists of bytes, opened under the bound of the second form.
-/
namespace Go.Proofs.Ytlcjhbemgagchaa
open Go.ChangeShapes Go.WideShapes Go.ChangeAt Go.RowKit Go.Deep Go.Joins
set_option linter.unusedVariables false

section
variable {H : Type} {enc : TypeId × Value → H} {P : Program} {w : World} {base : Nat} {spare : Nat → Bool} {held : Bool}
theorem bytes_bulk {n : Nat} {d : DataW H} (h : n = 0 ∨ ∃ el sp, d = .slice el sp ∧ el.length = n) : n + 1 ≤ Rows.uptoBulk d := by
  rcases h with rfl | ⟨el, sp, rfl, hel⟩
  · have := bulk_pos d; omega
  · have h2 := bulk_slice el sp
    have h3 := bulk_len el
    omega
theorem open_lists {t e eb : TypeId} {fuel : Nat} {cs : List Value} {x : DataW H × List MemPlace} (ht : P.underlying t = some (.slice e)) (he : P.underlying e = some (.slice eb)) (heb : P.underlying eb = some (.int .u8)) (hC : P.cellsOf e = 1) (hCb : P.cellsOf eb = 1)
    (h : DataW.trod enc P w base spare held fuel t cs = some x) :
    ∃ (A : Option Addr) (n c : Nat) (xss : List (List Nat)), cs = [.slice A n c] ∧ n ≤ c ∧ c ≤ maxLen ∧ LAt w w.heap.size A n xss ∧ (∀ x ∈ xss, ∀ y ∈ x, y < 256) ∧ (xss.map fun x => x.length + 1).sum ≤ Rows.uptoBulk x.1 := by
  rcases open_slice ht h with ⟨rfl, hx⟩ | ⟨a, len, cap, m, k, D, Pl, rfl, _, hl, hm, hmm, hxx, hi⟩
  · exact ⟨none, 0, 0, [], rfl, Nat.le_refl _, Nat.zero_le _, ⟨rfl, fun h => absurd h (by omega)⟩, (fun x h => by cases h), by simp⟩
  · have hlm : len ≤ m := by rw [hmm]; split <;> omega
    have hrow : ∀ i, i < len → ∃ (xs : List Nat), (∃ (V : Option Addr) (nv dv : Nat), w.cell? (a.add i) = some (.slice V nv dv) ∧ nv ≤ dv ∧ dv ≤ 9223372036854775807 ∧ Sl w 1 V nv (xs.map bn)) ∧ (∀ y ∈ xs, y < 256) ∧ xs.length + 1 ≤ Rows.uptoBulk (D i) := by
      intro i hil
      obtain ⟨cs', hc, ht'⟩ := hi i (by omega)
      rw [hC] at hc
      obtain ⟨_, hcl, hat⟩ := World.cells?_some hc
      match cs', hcl with
      | [v], _ =>
        obtain ⟨V, nv, dv, xs, e1, h1, h2, hxl, h256, hS, hd⟩ := open_bytes he heb hCb ht'
        have a0 := hat 0 (by omega)
        rw [add_add, Nat.mul_one, Nat.add_zero] at a0
        simp at e1 a0
        subst e1
        exact ⟨xs, ⟨V, nv, dv, a0, h1, by unfold maxLen at h2; exact h2, hS⟩, h256, by rw [← hxl]; exact bytes_bulk hd⟩
    have hch : ∃ r : Nat → List Nat, ∀ i, i < len → (∃ (V : Option Addr) (nv dv : Nat), w.cell? (a.add i) = some (.slice V nv dv) ∧ nv ≤ dv ∧ dv ≤ 9223372036854775807 ∧ Sl w 1 V nv ((r i).map bn)) ∧ (∀ y ∈ r i, y < 256) ∧ (r i).length + 1 ≤ Rows.uptoBulk (D i) := by
      refine ⟨fun i => if hil : i < len then Classical.choose (hrow i hil) else [], fun i hil => ?_⟩
      simp only [dif_pos hil]
      exact Classical.choose_spec (hrow i hil)
    obtain ⟨r, hr⟩ := hch
    refine ⟨some a, len, cap, (List.range len).map r, rfl, hl, hm, ⟨by simp, fun hn => ?_⟩, ?_, ?_⟩
    · obtain ⟨⟨_, _, _, c0, _⟩, _⟩ := hr 0 hn
      have hs : a.spot = none := by simpa [Addr.add] using World.cell?_spot c0
      obtain ⟨b, o, sp⟩ := a
      simp only at hs
      subst hs
      refine ⟨b, o, rfl, by simpa [addBlock] using World.block_lt_of_cell? w _ c0, fun i hi' => ?_⟩
      have hil : i < len := by simpa using hi'
      obtain ⟨⟨V, nv, dv, c0, h1, h2, hS⟩, _⟩ := hr i hil
      rw [Addr.add_lit] at c0
      exact ⟨V, nv, dv, c0, h1, h2, by simpa using hS, fun b' o' e h0 => hS.lt b' o' e h0⟩
    · intro x hx
      obtain ⟨i, hi', rfl⟩ := List.mem_map.1 hx
      exact (hr i (by simpa using hi')).2.1
    · rw [hxx]
      have h2 := bulk_slice ((List.range len).map D) ((List.range (m - len)).map fun j => D (len + j))
      have h3 := bulk_sum D (fun i => (r i).length + 1) (List.range len) fun i hi' => (hr i (by simpa using hi')).2.2
      rw [List.map_map]
      show ((List.range len).map fun i => (r i).length + 1).sum ≤ Rows.uptoBulk (DataW.slice ((List.range len).map D) ((List.range (m - len)).map fun j => D (len + j)))
      omega
end
theorem listAll_sum : ∀ (xss : List (List Nat)), (xss.map fun x => x.length + 1).sum ≤ 1048576 → (listAll xss).length ≤ 11 * (xss.map fun x => x.length + 1).sum ∧ xss.length ≤ (xss.map fun x => x.length + 1).sum ∧ ∀ x ∈ xss, x.length ≤ 1048576
  | [], _ => by simp [listAll]
  | v :: xss, h => by
    simp only [List.map_cons, List.sum_cons] at h ⊢
    obtain ⟨a, b, c⟩ := listAll_sum xss (by omega)
    have hv := short_le (n := v.length) (by unfold U64; omega)
    refine ⟨?_, by simp; omega, fun x hx => ?_⟩
    · have e : listAll (v :: xss) = short v.length ++ v ++ listAll xss := by simp [listAll]
      rw [e, List.length_append, List.length_append]; omega
    · rcases List.mem_cons.1 hx with rfl | hx
      · omega
      · exact c x hx
end Go.Proofs.Ytlcjhbemgagchaa
end

section
/-
  The law's helpers of chapter 29: bytes, over, lent, kept.
-/
namespace Go.Proofs.Ytlcjhbemgagchaa
open Go.RowKit
set_option linter.unusedVariables false

set_option maxHeartbeats 1000000 in
set_option maxRecDepth 4000 in
/-- bytes, where the bytes are the same: true. -/
theorem bytes29_true (w : World) (xs : List Nat) (A B : Option Addr) (c d : Nat) (n : Nat) (hn : n = xs.length) (h63 : n ≤ 9223372036854775806) (hA : Sl w 1 A n (xs.map bn)) (hB : Sl w 1 B n (xs.map bn)) :
    Calls Try.prog 14 #[.slice A n c, .slice B n d] w fun e w' => e = .returned (.bool true) ∧ Fr (fun _ => False) w w' := by
  have Hn := hide hn
  clear hn
  go_enter Try.func14, Try.ntmps14
  go_wp2_with fail
  go_loopw [5] (fun i wr => ∃ (k m : Nat), k ≤ n ∧ i = .int .i64 k ∧ Hid (wr = w.drewN m)) (fun i _ => n - (intOf i).toNat)
  case atStart => exact ⟨0, 0, Nat.zero_le _, rfl, rfl⟩
  case round =>
    obtain ⟨k, m, hk, rfl, hw⟩ := hrel
    obtain rfl := hw.out
    clear hw
    by_cases hlt : k < n
    · have hu := bn_get (xs := xs) (k := k) (by rw [← Hn.out]; exact hlt)
      obtain ⟨b, o, rfl, ca⟩ := hA.at_ hu
      obtain ⟨b', o', rfl, cb⟩ := hB.at_ hu
      clear hA hB hu
      have i0 : (0 : Int) ≤ (k : Int) := by omega
      have i1 : (k : Int) < (n : Int) := by omega
      go_wp2_with fail
      go_quiet (fail)
      go_wp2_with fail
      exact ⟨⟨k + 1, _, by omega, by go_num, rfl⟩, by simp [intOf]; omega⟩
    · go_wp2_with fail
      go_ret
      exact ⟨rfl, (Fr.refl _ _).drewN _⟩

set_option maxHeartbeats 1000000 in
set_option maxRecDepth 4000 in
/-- over writes into the slice's own block alone. -/
theorem over29_any (w : World) (xs : List Nat) (A : Option Addr) (n c : Nat) (g : Option Nat) (hO : Ow w 5 1 A n c (xs.map bn) g) (hcap : n ≤ 140737488355000) :
    Calls Try.prog 16 #[.slice A n c] w fun e w' => e = .returned (.tuple #[]) ∧ Fr (fun k => some k = g) w w' := by
  obtain ⟨i0, hi, hz0, hz1, hz2⟩ := info_parts info5
  go_enter Try.func16, Try.ntmps16
  go_wp2_with fail
  go_loopw [2] (fun i wr => ∃ (k : Nat) (ys : List Nat), k ≤ n ∧ i = .int .i64 k ∧ Ow wr 5 1 A n c (ys.map bn) g ∧ Fr (fun k => some k = g) w wr) (fun i _ => n - (intOf i).toNat)
  case atStart => exact ⟨0, xs, Nat.zero_le _, rfl, hO, Fr.refl _ _⟩
  case round =>
    obtain ⟨k, ys, hk, rfl, hO, hf⟩ := hrel
    by_cases hlt : k < n
    · have hl : ys.length = n := by have := hO.1; simpa using this
      have hu := bn_get (xs := ys) (k := k) (by omega)
      obtain ⟨b, o, rfl, rfl, c0, z0⟩ := hO.look hu
      have Hl := hide hl
      have Hu := hide hu
      clear hl hu
      go_wp2_with fail
      refine ⟨⟨k + 1, ys.set k ((ys.getD k 0 + 91) % 256), by omega, by go_num, ?_, ?_⟩, by simp [intOf]; omega⟩
      · have := hO.put (j := k) (by omega) (bn ((ys.getD k 0 + 91) % 256))
        rw [← List.map_set] at this
        have e : bn ((ys.getD k 0 + 91) % 256) = .int .u8 (IntKind.u8.wrap (((ys.getD k 0 : Nat) : Int) + 91)) := by rw [IntKind.wrap_u8]; simp [bn]
        rw [e] at this
        exact this
      · exact hf.setIn (.inl rfl) _
    · go_wp2_with fail
      go_loopw [0, 3] (fun v i wr => ∃ (m : Nat) (ys : List Nat) (A : Option Addr) (c : Nat) (g' : Option Nat), m ≤ 40 ∧ v = .slice A (n + m) c ∧ i = .int .i64 m ∧ Ow wr 5 1 A (n + m) c (ys.map bn) g' ∧ (g' = g ∨ ∃ b, g' = some b ∧ w.heap.size ≤ b) ∧ Fr (fun k => some k = g) w wr) (fun _ i _ => 40 - (intOf i).toNat)
      case atStart => exact ⟨0, ys, A, c, g, by omega, rfl, rfl, hO, .inl rfl, hf⟩
      case round =>
        clear hO hf
        obtain ⟨m, zs, A2, c2, g2, hm, rfl, rfl, hO, hg, hf⟩ := hrel
        by_cases hlt : m < 40
        · go_wp2_with (at_builtin; refine wpList_append_ow _ rfl _ _ 22 rfl 5 i0 (.int .u8 0) 1 1 Try.underlying22 hi hz0 hz1 hz2 rfl (by decide) _ _ _ _ _ rfl (hO.fr ((Fr.refl _ _).alloc _) (fun _ _ => id)) _ _ _ _ rfl (Sl.one _ _ _) (bn_one [_]) (by unfold maxLen; omega) (by omega) ?_)
          intro A3 c3 w3 g3 hO3 hf3 hg3
          go_wp2_with fail
          refine ⟨⟨m + 1, zs ++ [77], A3, c3, g3, by omega, rfl, by go_num, by rw [← Nat.add_assoc]; simpa [bn] using hO3, ?_, ?_⟩, by simp [intOf]; omega⟩
          · have := hf.size
            rcases hg3 with rfl | ⟨b, rfl, hb⟩
            · exact hg
            · exact .inr ⟨b, rfl, by omega⟩
          · refine (hf.alloc _).comp hf3 fun i hi e => ?_
            rcases hg with rfl | ⟨b, rfl, hb⟩
            · exact e
            · cases e; omega
        · go_wp2_with fail
          go_end0
          exact ⟨rfl, hf⟩

/-- Behind lent: the bytes xs in memory of their own, the marks behind them. -/
def Lent29 (w : World) (A : Option Addr) (n c : Nat) (xs : List Nat) (g : Nat) : Prop := Ow w 5 1 A (n + 4) c ((xs ++ marks 4).map bn) (some g)
def LentPost29 (n : Nat) (xs : List Nat) (w : World) (e : Ending) (w' : World) : Prop :=
  ∃ A c g, e = .returned (.slice A n c) ∧ Lent29 w' A n c xs g ∧ w.heap.size ≤ g ∧ Fr (fun _ => False) w w'

set_option maxHeartbeats 1000000 in
set_option maxRecDepth 4000 in
theorem lent29_any (w : World) (xs : List Nat) (A : Option Addr) (n c : Nat) (hn : n ≤ 140737488355000) (hA : Sl w 1 A n (xs.map bn)) :
    Calls Try.prog 10 #[.slice A n c] w (LentPost29 n xs w) := by
  obtain ⟨i0, hi, hz0, hz1, hz2⟩ := info_parts info5
  go_enter Try.func10, Try.ntmps10
  go_wp2_with (at_builtin; refine wpList_append_ow _ rfl _ _ 22 rfl 5 i0 (.int .u8 0) 1 1 Try.underlying22 hi hz0 hz1 hz2 rfl (by decide) _ _ _ _ _ rfl (Ow.nil_ _ _ _) _ _ _ _ rfl hA (bn_one _) (by unfold maxLen; omega) (by omega) ?_)
  intro A1 c1 w1 g1 hO1 hf1 hg1
  go_wp2_with fail
  go_loopw [3, 4] (fun v i wr => ∃ (m : Nat) (A : Option Addr) (c : Nat) (g' : Option Nat), m ≤ 4 ∧ v = .slice A (n + m) c ∧ i = .int .i64 m ∧ Ow wr 5 1 A (n + m) c ((xs ++ marks m).map bn) g' ∧ (∀ b, g' = some b → w.heap.size ≤ b) ∧ Fr (fun _ => False) w wr) (fun _ i _ => 4 - (intOf i).toNat)
  case atStart =>
    refine ⟨0, A1, c1, g1, by omega, rfl, rfl, by simpa [marks] using hO1, fun b hb => ?_, hf1.mono fun k hk e => by cases e⟩
    rcases hg1 with rfl | ⟨b', rfl, h⟩
    · cases hb
    · cases hb; exact h
  case round =>
    clear hO1 hf1 hg1
    obtain ⟨m, A2, c2, g2, hm, rfl, rfl, hO, hg, hf⟩ := hrel
    by_cases hlt : m < 4
    · go_wp2_with (at_builtin; refine wpList_append_ow _ rfl _ _ 22 rfl 5 i0 (.int .u8 0) 1 1 Try.underlying22 hi hz0 hz1 hz2 rfl (by decide) _ _ _ _ _ rfl (hO.fr ((Fr.refl _ _).alloc _) (fun _ _ => id)) _ _ _ _ rfl (Sl.one _ _ _) (bn_one [_]) (by unfold maxLen; omega) (by omega) ?_)
      intro A3 c3 w3 g3 hO3 hf3 hg3
      go_wp2_with fail
      refine ⟨⟨m + 1, A3, c3, g3, by omega, rfl, by go_num, ?_, ?_, ?_⟩, by simp [intOf]; omega⟩
      · rw [← Nat.add_assoc, marks_succ, ← List.append_assoc, List.map_append]
        have e : List.map bn [201 + m] = [Value.int .u8 (201 + (m : Int))] := by simp [bn]
        rw [e]; simpa [List.map_append] using hO3
      · intro b hb
        have := hf.size
        rcases hg3 with rfl | ⟨b', rfl, h⟩
        · exact hg b hb
        · cases hb; omega
      · exact (hf.alloc _).comp hf3 fun i hi e => by have := hg i e.symm; omega
    · obtain rfl : m = 4 := by omega
      have hcc := hO.cap
      have hc1 := hcc.1
      have hc2 : c2 ≤ 9223372036854775807 := by have := hcc.2; unfold maxLen at this; exact this
      clear hcc
      go_wp2_with fail
      go_ret
      obtain ⟨hl, ⟨_, h0, _⟩ | ⟨b, o, cur, hA2, rfl, r⟩⟩ := id hO
      · omega
      · exact ⟨A2, c2, b, rfl, hO, hg b rfl, hf⟩

set_option maxHeartbeats 1000000 in
set_option maxRecDepth 4000 in
theorem kept29_true (w : World) (xs : List Nat) (A B : Option Addr) (n c d : Nat) (g : Nat) (hn : n ≤ 140737488355000) (hl : n = xs.length) (hL : Lent29 w A n c xs g) (hB : Sl w 1 B n (xs.map bn)) :
    Calls Try.prog 15 #[.slice A n c, .slice B n d] w fun e w' => e = .returned (.bool true) ∧ Fr (fun _ => False) w w' := by
  have hS : ∀ w', Fr (fun _ => False) w w' → Sl w' 1 A n (xs.map bn) := fun w' hf => by
    have := ((hL.fr hf (fun _ _ => id)).take (k := n) (by omega)).sl
    rwa [Nat.mul_one, List.map_append, List.take_left' (by simp [hl])] at this
  have hB' : ∀ w', Fr (fun _ => False) w w' → Sl w' 1 B n (xs.map bn) := fun w' hf => hB.below hf (fun _ _ => id)
  have hcap := hL.cap
  have hc1 := hcap.1
  have hc2 : c ≤ 9223372036854775807 := by have := hcap.2; unfold maxLen at this; exact this
  clear hcap
  have Hl := hide hl
  have HS := hide hS
  have HB := hide hB'
  clear hl hS hB' hB
  go_enter Try.func15, Try.ntmps15
  go_wp2_with fail
  go_loopw [6] (fun i wr => ∃ (k : Nat), k ≤ 4 ∧ i = .int .i64 k ∧ Fr (fun _ => False) w wr) (fun i _ => 4 - (intOf i).toNat)
  case atStart => exact ⟨0, by omega, rfl, Fr.refl _ _⟩
  case round =>
    obtain ⟨k, hk, rfl, hfr⟩ := hrel
    by_cases hlt : k < 4
    · have hu : ((xs ++ marks 4).map bn)[n + k]? = some (.int .u8 (201 + (k : Int))) := by
        have hl := Hl.out
        rw [List.getElem?_map, List.getElem?_append_right (by omega), hl, Nat.add_sub_cancel_left]
        simp [marks, hlt, bn]
      obtain ⟨b, o, rfl, hgb, c0, -⟩ := (hL.fr hfr (fun _ _ => id)).look hu
      clear hu hgb
      go_wp2_with fail
      exact ⟨⟨k + 1, by omega, by go_num, hfr⟩, by simp [intOf]; omega⟩
    · have hb := bytes29_true wr xs A B c d n Hl.out (by omega) (HS.out wr hfr) (HB.out wr hfr)
      go_wp2_with fail
      refine hb.mono ?_
      rintro e w1 ⟨rfl, hf1⟩
      go_wp2_with fail
      go_ret
      exact ⟨rfl, hfr.trans hf1⟩
end Go.Proofs.Ytlcjhbemgagchaa
end
