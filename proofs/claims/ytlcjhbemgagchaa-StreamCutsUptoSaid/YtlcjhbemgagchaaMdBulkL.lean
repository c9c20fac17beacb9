/-
  Texts merged into one, to keep the claim small: BulkL.
-/
import Derived.Test.YtlcjhbemgagchaaMc2
import Derived.Test.YtlcjhbemgagchaaMc5
/-
  A list of lists of bytes, opened under the bound of the second form.
-/
namespace Go.Proofs.Ytlcjhbemgagchaa
open Go.ChangeShapes Go.WideShapes Go.ChangeAt Go.RowKit Go.Deep Go.Joins
set_option linter.unusedVariables false

section
variable {H : Type} {enc : TypeId × Value → H} {P : Program} {w : World} {base : Nat} {spare : Nat → Bool} {held : Bool}
theorem bytes_bulk {n : Nat} {d : DataW H} (h : n = 0 ∨ ∃ el sp, d = .slice el sp ∧ el.length = n) : n + 1 ≤ Rows.uptoBulk d := by
  rcases h with rfl | ⟨el, sp, rfl, hel⟩
  · have := bulk_pos d; omega
  · have h2 := bulk_slice el sp
    have h3 := bulk_len el
    omega
theorem open_lists {t e eb : TypeId} {fuel : Nat} {cs : List Value} {x : DataW H × List MemPlace} (ht : P.underlying t = some (.slice e)) (he : P.underlying e = some (.slice eb)) (heb : P.underlying eb = some (.int .u8)) (hC : P.cellsOf e = 1) (hCb : P.cellsOf eb = 1)
    (h : DataW.trod enc P w base spare held fuel t cs = some x) :
    ∃ (A : Option Addr) (n c : Nat) (xss : List (List Nat)), cs = [.slice A n c] ∧ n ≤ c ∧ c ≤ maxLen ∧ LAt w w.heap.size A n xss ∧ (∀ x ∈ xss, ∀ y ∈ x, y < 256) ∧ (xss.map fun x => x.length + 1).sum ≤ Rows.uptoBulk x.1 := by
  rcases open_slice ht h with ⟨rfl, hx⟩ | ⟨a, len, cap, m, k, D, Pl, rfl, _, hl, hm, hmm, hxx, hi⟩
  · exact ⟨none, 0, 0, [], rfl, Nat.le_refl _, Nat.zero_le _, ⟨rfl, fun h => absurd h (by omega)⟩, (fun x h => by cases h), by simp⟩
  · have hlm : len ≤ m := by rw [hmm]; split <;> omega
    have hrow : ∀ i, i < len → ∃ (xs : List Nat), (∃ (V : Option Addr) (nv dv : Nat), w.cell? (a.add i) = some (.slice V nv dv) ∧ nv ≤ dv ∧ dv ≤ 9223372036854775807 ∧ Sl w 1 V nv (xs.map bn)) ∧ (∀ y ∈ xs, y < 256) ∧ xs.length + 1 ≤ Rows.uptoBulk (D i) := by
      intro i hil
      obtain ⟨cs', hc, ht'⟩ := hi i (by omega)
      rw [hC] at hc
      obtain ⟨_, hcl, hat⟩ := World.cells?_some hc
      match cs', hcl with
      | [v], _ =>
        obtain ⟨V, nv, dv, xs, e1, h1, h2, hxl, h256, hS, hd⟩ := open_bytes he heb hCb ht'
        have a0 := hat 0 (by omega)
        rw [add_add, Nat.mul_one, Nat.add_zero] at a0
        simp at e1 a0
        subst e1
        exact ⟨xs, ⟨V, nv, dv, a0, h1, by unfold maxLen at h2; exact h2, hS⟩, h256, by rw [← hxl]; exact bytes_bulk hd⟩
    have hch : ∃ r : Nat → List Nat, ∀ i, i < len → (∃ (V : Option Addr) (nv dv : Nat), w.cell? (a.add i) = some (.slice V nv dv) ∧ nv ≤ dv ∧ dv ≤ 9223372036854775807 ∧ Sl w 1 V nv ((r i).map bn)) ∧ (∀ y ∈ r i, y < 256) ∧ (r i).length + 1 ≤ Rows.uptoBulk (D i) := by
      refine ⟨fun i => if hil : i < len then Classical.choose (hrow i hil) else [], fun i hil => ?_⟩
      simp only [dif_pos hil]
      exact Classical.choose_spec (hrow i hil)
    obtain ⟨r, hr⟩ := hch
    refine ⟨some a, len, cap, (List.range len).map r, rfl, hl, hm, ⟨by simp, fun hn => ?_⟩, ?_, ?_⟩
    · obtain ⟨⟨_, _, _, c0, _⟩, _⟩ := hr 0 hn
      have hs : a.spot = none := by simpa [Addr.add] using World.cell?_spot c0
      obtain ⟨b, o, sp⟩ := a
      simp only at hs
      subst hs
      refine ⟨b, o, rfl, by simpa [addBlock] using World.block_lt_of_cell? w _ c0, fun i hi' => ?_⟩
      have hil : i < len := by simpa using hi'
      obtain ⟨⟨V, nv, dv, c0, h1, h2, hS⟩, _⟩ := hr i hil
      rw [Addr.add_lit] at c0
      exact ⟨V, nv, dv, c0, h1, h2, by simpa using hS, fun b' o' e h0 => hS.lt b' o' e h0⟩
    · intro x hx
      obtain ⟨i, hi', rfl⟩ := List.mem_map.1 hx
      exact (hr i (by simpa using hi')).2.1
    · rw [hxx]
      have h2 := bulk_slice ((List.range len).map D) ((List.range (m - len)).map fun j => D (len + j))
      have h3 := bulk_sum D (fun i => (r i).length + 1) (List.range len) fun i hi' => (hr i (by simpa using hi')).2.2
      rw [List.map_map]
      show ((List.range len).map fun i => (r i).length + 1).sum ≤ Rows.uptoBulk (DataW.slice ((List.range len).map D) ((List.range (m - len)).map fun j => D (len + j)))
      omega
end
theorem listAll_sum : ∀ (xss : List (List Nat)), (xss.map fun x => x.length + 1).sum ≤ 1048576 → (listAll xss).length ≤ 11 * (xss.map fun x => x.length + 1).sum ∧ xss.length ≤ (xss.map fun x => x.length + 1).sum ∧ ∀ x ∈ xss, x.length ≤ 1048576
  | [], _ => by simp [listAll]
  | v :: xss, h => by
    simp only [List.map_cons, List.sum_cons] at h ⊢
    obtain ⟨a, b, c⟩ := listAll_sum xss (by omega)
    have hv := short_le (n := v.length) (by unfold U64; omega)
    refine ⟨?_, by simp; omega, fun x hx => ?_⟩
    · have e : listAll (v :: xss) = short v.length ++ v ++ listAll xss := by simp [listAll]
      rw [e, List.length_append, List.length_append]; omega
    · rcases List.mem_cons.1 hx with rfl | hx
      · omega
      · exact c x hx
end Go.Proofs.Ytlcjhbemgagchaa
