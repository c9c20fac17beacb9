/-
  A list of structs of one-cell fields, opened row by row under the bound of the second form; a script of writers.
-/
import Derived.Test.YtbglloafbmamoaaBulkL
import Derived.Test.YtbglloafbmamoaaTlvW6
namespace Go.Proofs.Ytbglloafbmamoaa
open Go.ChangeShapes Go.WideShapes Go.ChangeAt Go.RowKit Go.Deep Go.Joins
set_option linter.unusedVariables false

section
variable {H : Type} {enc : TypeId × Value → H} {P : Program} {w : World} {base : Nat} {spare : Nat → Bool} {held : Bool}
theorem open_rows {t e : TypeId} {fs : Array Field} {fuel : Nat} {cs : List Value} {x : DataW H × List MemPlace} (ht : P.underlying t = some (.slice e)) (he : P.underlying e = some (.struct fs))
    (hone : oneCellFields P fs = true) (hC : P.cellsOf e = fs.size) (hpos : 0 < fs.size) (h : DataW.trod enc P w base spare held fuel t cs = some x) :
    ∃ (A : Option Addr) (n c : Nat) (f : Nat → Nat → Value) (Y : Nat → List (DataW H × List MemPlace)), cs = [.slice A n c] ∧ n ≤ c ∧ c ≤ maxLen ∧ n ≤ Rows.uptoBulk x.1 ∧ Cells w w.heap.size A n fs.size f ∧
      ∀ i, i < n → Rows.uptoBulkAll ((Y i).map (·.1)) ≤ Rows.uptoBulk x.1 ∧ ∀ (j : Nat) (fl : Field), fs[j]? = some fl → ∃ (y : DataW H × List MemPlace) (m : Nat), DataW.trod enc P w base spare held m fl.type [f i j] = some y ∧ (Y i)[j]? = some y := by
  rcases open_slice ht h with ⟨rfl, hx⟩ | ⟨a, len, cap, m, k, D, Pl, rfl, _, hl, hm, hmm, hxx, hi⟩
  · exact ⟨none, 0, 0, fun _ _ => undef, fun _ => [], rfl, Nat.le_refl _, Nat.zero_le _, Nat.zero_le _, fun h => absurd h (by omega), fun i hi => absurd hi (by omega)⟩
  · have hlm : len ≤ m := by rw [hmm]; split <;> omega
    have hrow : ∀ i, i < len → ∃ (r : Nat → Value) (ys : List (DataW H × List MemPlace)), D i = .agg (ys.map (·.1)) ∧ ∀ (j : Nat) (fl : Field), fs[j]? = some fl → w.cell? (a.add (i * fs.size + j)) = some (r j) ∧ ∃ (y : DataW H × List MemPlace) (m : Nat), DataW.trod enc P w base spare held m fl.type [r j] = some y ∧ ys[j]? = some y := by
      intro i hil
      obtain ⟨cs', hc, ht'⟩ := hi i (by omega)
      rw [hC] at hc
      obtain ⟨ys, n', _, hD, _, hyl, hf⟩ := DataW.trod_struct he ht'
      obtain ⟨_, hcl, hat⟩ := World.cells?_some hc
      simp only [Prod.mk.injEq] at hD
      refine ⟨fun j => cs'.getD j undef, ys, hD.1, fun j fl hj => ?_⟩
      obtain ⟨ho, hk⟩ := hone_of hone j fl hj
      have hjl : j < fs.size := (Array.getElem?_eq_some_iff.1 hj).1
      have h1 := hf j fl hj
      rw [ho, hk, Deep.take1_drop _ _ undef (by omega)] at h1
      have hcell := hat j hjl
      rw [add_add] at hcell
      refine ⟨?_, ys[j]'(by omega), n', ?_, List.getElem?_eq_getElem (by omega)⟩
      · rw [hcell]; show _ = some (cs'.getD j undef); rw [List.getD_eq_getElem?_getD, List.getElem?_eq_getElem (by omega)]; rfl
      · rw [h1]; exact List.getElem?_eq_getElem (by omega)
    have hch : ∃ (r : Nat → Nat → Value) (Y : Nat → List (DataW H × List MemPlace)), ∀ i, i < len → D i = .agg ((Y i).map (·.1)) ∧ ∀ (j : Nat) (fl : Field), fs[j]? = some fl → w.cell? (a.add (i * fs.size + j)) = some (r i j) ∧ ∃ (y : DataW H × List MemPlace) (m : Nat), DataW.trod enc P w base spare held m fl.type [r i j] = some y ∧ (Y i)[j]? = some y :=
      ⟨fun i => if hil : i < len then Classical.choose (hrow i hil) else fun _ => undef, fun i => if hil : i < len then Classical.choose (Classical.choose_spec (hrow i hil)) else [], fun i hil => by simp only [dif_pos hil]; exact Classical.choose_spec (Classical.choose_spec (hrow i hil))⟩
    obtain ⟨r, Y, hr⟩ := hch
    have h2 := bulk_slice ((List.range len).map D) ((List.range (m - len)).map fun j => D (len + j))
    have hb0 : Rows.uptoBulkAll ((List.range len).map D) ≤ Rows.uptoBulk x.1 := by
      rw [hxx]
      show Rows.uptoBulkAll ((List.range len).map D) ≤ Rows.uptoBulk (DataW.slice ((List.range len).map D) ((List.range (m - len)).map fun j => D (len + j)))
      omega
    have hb1 := bulk_len ((List.range len).map D)
    rw [List.length_map, List.length_range] at hb1
    refine ⟨some a, len, cap, r, Y, rfl, hl, hm, by omega, ?_, fun i hil => ⟨?_, fun j fl hj => ((hr i hil).2 j fl hj).2⟩⟩
    · intro hn
      have h0 := ((hr 0 hn).2 0 (fs[0]'hpos) (Array.getElem?_eq_getElem hpos)).1
      have hs : a.spot = none := by simpa [Addr.add] using World.cell?_spot h0
      obtain ⟨b, o, sp⟩ := a
      simp only at hs
      subst hs
      refine ⟨b, o, rfl, by simpa [addBlock] using World.block_lt_of_cell? w _ h0, fun i j hil hj => ?_⟩
      have := ((hr i hil).2 j (fs[j]'hj) (Array.getElem?_eq_getElem hj)).1
      rw [Addr.add_lit] at this
      rwa [Nat.add_assoc]
    · have h3 : Rows.uptoBulk (D i) ≤ Rows.uptoBulkAll ((List.range len).map D) := bulk_mem (List.mem_map.2 ⟨i, by simpa using hil, rfl⟩)
      rw [(hr i hil).1, bulk_agg] at h3
      omega
theorem bulk_at {Y : List (DataW H × List MemPlace)} {j : Nat} {y : DataW H × List MemPlace} (h : Y[j]? = some y) : Rows.uptoBulk y.1 ≤ Rows.uptoBulkAll (Y.map (·.1)) :=
  bulk_mem (List.mem_map.2 ⟨y, List.mem_of_getElem? h, rfl⟩)

theorem open_script {fuel : Nat} {cs : List Value} {x : DataW H × List MemPlace} (h : DataW.trod enc Try.prog w base spare held fuel 48 cs = some x) (hb : Rows.uptoBulk x.1 ≤ 1048576) :
    ∃ (A : Option Addr) (n c : Nat) (sc : List WStep), cs = [.slice A n c] ∧ n ≤ 1048576 ∧ ScriptAt w w.heap.size A n sc := by
  obtain ⟨A, n, c, f, Y, hcs, _, _, hn, hcell, hY⟩ := open_rows Try.underlying48 Try.underlying60 (by kernel_rfl) (by kernel_rfl) (by decide) h
  have hstep : ∀ i, i < n → ∃ s : WStep, ∀ b o, A = some ⟨b, o, none⟩ → StepAt w w.heap.size b (o + i * 7) s := by
    intro i hi
    obtain ⟨hbi, hf⟩ := hY i hi
    obtain ⟨y0, m0, t0, _⟩ := hf 0 _ rfl
    obtain ⟨y1, m1, t1, _⟩ := hf 1 _ rfl
    obtain ⟨y2, m2, t2, _⟩ := hf 2 _ rfl
    obtain ⟨y3, m3, t3, _⟩ := hf 3 _ rfl
    obtain ⟨y4, m4, t4, _⟩ := hf 4 _ rfl
    obtain ⟨y5, m5, t5, b5⟩ := hf 5 _ rfl
    obtain ⟨y6, m6, t6, b6⟩ := hf 6 _ rfl
    have q5 := bulk_at b5
    have q6 := bulk_at b6
    obtain ⟨who, e0, _, _⟩ := DataW.trod_int Try.underlying3 t0
    obtain ⟨kind, e1, _, _⟩ := DataW.trod_int Try.underlying3 t1
    obtain ⟨tag, e2, _, _⟩ := DataW.trod_int Try.underlying3 t2
    obtain ⟨inn, e3, _, _⟩ := DataW.trod_int Try.underlying3 t3
    obtain ⟨N, e4, _, wN⟩ := DataW.trod_int Try.underlying22 t4
    obtain ⟨V, m, d, data, e5, _, _, hml, h256, hS, hd⟩ := open_bytes Try.underlying23 Try.underlying5 (by kernel_rfl) t5
    obtain ⟨X, n2, d2, items, e6, _, _, hX, _, hs⟩ := open_lists Try.underlying58 Try.underlying23 Try.underlying5 (by kernel_rfl) (by kernel_rfl) t6
    have hd' := bytes_bulk hd
    have bN := bdu64 wN
    obtain ⟨k1, k2, k3⟩ := listAll_sum items (by omega)
    refine ⟨⟨who, kind, tag, inn, N.toNat, data, items⟩, fun b o hA => ?_⟩
    obtain ⟨b', o', hA', hbl, hc⟩ := hcell (by omega)
    rw [hA] at hA'; cases hA'
    refine ⟨V, m, d, X, n2, d2, ?_, by show N.toNat < _; unfold U64; omega, by omega, h256, hS, hS.lt, by rw [hX.1]; omega, k3, by show (listAll items).length ≤ _; omega, hX⟩
    intro j u hu
    have hj : j < 7 := by simpa [boxed] using (Array.getElem?_eq_some_iff.1 hu).1
    have h1 := hc i j hi hj
    have h2 : w.cell? ⟨b, o + i * 7 + j, none⟩ = some (f i j) := h1
    rw [h2]
    simp at e0 e1 e2 e3 e4 e5 e6
    have hN2 : ((N.toNat : Nat) : Int) = N := by omega
    have : j = 0 ∨ j = 1 ∨ j = 2 ∨ j = 3 ∨ j = 4 ∨ j = 5 ∨ j = 6 := by omega
    rcases this with rfl | rfl | rfl | rfl | rfl | rfl | rfl
    · rw [e0]; exact hu
    · rw [e1]; exact hu
    · rw [e2]; exact hu
    · rw [e3]; exact hu
    · rw [e4]; rw [← hN2]; exact hu
    · rw [e5]; exact hu
    · rw [e6]; exact hu
  have hch : ∃ r : Nat → WStep, ∀ i, i < n → ∀ b o, A = some ⟨b, o, none⟩ → StepAt w w.heap.size b (o + i * 7) (r i) := by
    refine ⟨fun i => if hi : i < n then Classical.choose (hstep i hi) else ⟨0, 0, 0, 0, 0, [], []⟩, fun i hi => ?_⟩
    simp only [dif_pos hi]
    exact Classical.choose_spec (hstep i hi)
  obtain ⟨r, hr⟩ := hch
  refine ⟨A, n, c, (List.range n).map r, hcs, by omega, by simp, fun h0 => ?_⟩
  obtain ⟨b, o, hA, hbl, _⟩ := hcell h0
  refine ⟨b, o, hA, hbl, fun i hi => ?_⟩
  have := hr i (by simpa using hi) b o hA
  simpa using this
end
end Go.Proofs.Ytbglloafbmamoaa
