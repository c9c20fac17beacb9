/-
  Opening a slice of structs, the weights of its fields' own readings told too.
-/
import Derived.Test.YtchajbiloaiekaaFrame
namespace Go.Proofs.Ytchajbiloaiekaa
open Go.ChangeShapes Go.WideShapes Go.ChangeAt Go.RowKit Go.Deep Go.Joins
set_option linter.unusedVariables false
section
variable {H : Type} {enc : TypeId × Value → H} {P : Program}
theorem weightsAll_mem {e : TypeId} {d : DataW H} {v : Nat} (hv : v ∈ d.weights P e) : ∀ {ds : List (DataW H)}, d ∈ ds → v ∈ DataW.weightsAll P e ds
  | d0 :: ds, h => by
    simp only [DataW.weightsAll, List.mem_append]
    rcases List.mem_cons.1 h with rfl | h
    · exact .inl hv
    · exact .inr (weightsAll_mem hv h)
theorem weights_slice {t e : TypeId} {el sp : List (DataW H)} {d : DataW H} {v : Nat} (ht : P.underlying t = some (.slice e)) (hd : d ∈ el) (hv : v ∈ d.weights P e) : v ∈ (DataW.slice el sp).weights P t := by
  simp only [DataW.weights, ht, List.mem_cons, List.mem_append]
  exact .inr (.inl (weightsAll_mem hv hd))
theorem weights_agg {t : TypeId} {fs : Array Field} {fl : Field} {ds : List (DataW H)} {d : DataW H} {j v : Nat} (ht : P.underlying t = some (.struct fs)) (hj : fs[j]? = some fl) (hd : ds[j]? = some d) (hv : v ∈ d.weights P fl.type) : v ∈ (DataW.agg ds).weights P t := by
  simp only [DataW.weights, ht]
  exact DataW.weights_mem_each (j := j) (t := fl.type) (by rw [List.getElem?_map]; simp [hj]) hd v hv
theorem weights_own {t e : TypeId} {el sp : List (DataW H)} (ht : P.underlying t = some (.slice e)) : (el.length + sp.length) * P.bytesOf e ∈ (DataW.slice el sp).weights P t := by
  simp only [DataW.weights, ht, List.mem_cons]
  exact .inl trivial
section
variable {w : World} {base : Nat} {spare : Nat → Bool} {held : Bool}
theorem open_structsW {t e : TypeId} {fs : Array Field} {fuel : Nat} {cs : List Value} {x : DataW H × List MemPlace} (ht : P.underlying t = some (.slice e)) (he : P.underlying e = some (.struct fs))
    (hone : oneCellFields P fs = true) (hC : P.cellsOf e = fs.size) (hpos : 0 < fs.size) (h : DataW.trod enc P w base spare held fuel t cs = some x) :
    ∃ (A : Option Addr) (n c : Nat) (f : Nat → Nat → Value), cs = [.slice A n c] ∧ n ≤ c ∧ c ≤ maxLen ∧ (n = 0 ∨ ∃ el sp, x.1 = .slice el sp ∧ el.length = n) ∧ Cells w w.heap.size A n fs.size f ∧
      ∀ i, i < n → ∀ (j : Nat) (fl : Field), fs[j]? = some fl → ∃ (y : DataW H × List MemPlace) (m : Nat), DataW.trod enc P w base spare held m fl.type [f i j] = some y ∧ ∀ v ∈ y.1.weights P fl.type, v ∈ x.1.weights P t := by
  rcases open_slice ht h with ⟨rfl, _⟩ | ⟨a, len, cap, m, k, D, Pl, rfl, _, hl, hm, hmm, hxx, hi⟩
  · exact ⟨none, 0, 0, fun _ _ => undef, rfl, Nat.le_refl _, Nat.zero_le _, .inl rfl, fun h => absurd h (by omega), fun i hi => absurd hi (by omega)⟩
  · have hlm : len ≤ m := by rw [hmm]; split <;> omega
    have hrow : ∀ i, i < len → ∃ r : Nat → Value, ∀ (j : Nat) (fl : Field), fs[j]? = some fl → w.cell? (a.add (i * fs.size + j)) = some (r j) ∧ ∃ (y : DataW H × List MemPlace) (m : Nat), DataW.trod enc P w base spare held m fl.type [r j] = some y ∧ ∀ v ∈ y.1.weights P fl.type, v ∈ x.1.weights P t := by
      intro i hil
      obtain ⟨cs', hc, ht'⟩ := hi i (by omega)
      rw [hC] at hc
      obtain ⟨ys, n', _, hD, _, hyl, hf⟩ := DataW.trod_struct he ht'
      obtain ⟨_, hcl, hat⟩ := World.cells?_some hc
      refine ⟨fun j => cs'.getD j undef, fun j fl hj => ?_⟩
      obtain ⟨ho, hk⟩ := hone_of hone j fl hj
      have hjl : j < fs.size := (Array.getElem?_eq_some_iff.1 hj).1
      have h1 := hf j fl hj
      rw [ho, hk, Deep.take1_drop _ _ undef (by omega)] at h1
      have hcell := hat j hjl
      rw [add_add] at hcell
      refine ⟨?_, ys[j]'(by omega), n', ?_, ?_⟩
      · rw [hcell]; show _ = some (cs'.getD j undef); rw [List.getD_eq_getElem?_getD, List.getElem?_eq_getElem (by omega)]; rfl
      · rw [h1]; exact List.getElem?_eq_getElem (by omega)
      · intro v hv
        have hD1 : D i = .agg (ys.map (·.1)) := (Prod.mk.injEq _ _ _ _ ▸ hD).1
        rw [hxx]
        refine weights_slice ht (List.mem_map.2 ⟨i, List.mem_range.2 hil, rfl⟩) ?_
        rw [hD1]
        exact weights_agg he hj (d := (ys[j]'(by omega)).1) (by rw [List.getElem?_map, List.getElem?_eq_getElem (by omega)]; rfl) hv
    have hch : ∃ r : Nat → Nat → Value, ∀ i, i < len → ∀ (j : Nat) (fl : Field), fs[j]? = some fl → w.cell? (a.add (i * fs.size + j)) = some (r i j) ∧ ∃ (y : DataW H × List MemPlace) (m : Nat), DataW.trod enc P w base spare held m fl.type [r i j] = some y ∧ ∀ v ∈ y.1.weights P fl.type, v ∈ x.1.weights P t :=
      ⟨fun i => if hil : i < len then Classical.choose (hrow i hil) else fun _ => undef, fun i hil => by simp only [dif_pos hil]; exact Classical.choose_spec (hrow i hil)⟩
    obtain ⟨r, hr⟩ := hch
    refine ⟨some a, len, cap, r, rfl, hl, hm, .inr ⟨_, _, by rw [hxx], by simp⟩, ?_, fun i hil j fl hj => (hr i hil j fl hj).2⟩
    intro hn
    have h0 := (hr 0 hn 0 (fs[0]'hpos) (Array.getElem?_eq_getElem hpos)).1
    have hs : a.spot = none := by simpa [Addr.add] using World.cell?_spot h0
    obtain ⟨b, o, sp⟩ := a
    simp only at hs
    subst hs
    refine ⟨b, o, rfl, by simpa [addBlock] using World.block_lt_of_cell? w _ h0, fun i j hil hj => ?_⟩
    have := (hr i hil j (fs[j]'hj) (Array.getElem?_eq_getElem hj)).1
    rw [Addr.add_lit] at this
    rwa [Nat.add_assoc]

end
end
end Go.Proofs.Ytchajbiloaiekaa
