/-
  Texts merged into one, to keep the claim small: PrN3, FrameW.
-/
import Derived.Test.YtahhecendjfenaaMe37
import Derived.Test.YtahhecendjfenaaMe38
import Derived.Test.YtahhecendjfenaaMe39
import Derived.Test.YtahhecendjfenaaMe40
import Derived.Test.YtahhecendjfenaaMe41
import Derived.Test.YtahhecendjfenaaMe42
import Derived.Test.YtahhecendjfenaaMe43
import Derived.Test.YtahhecendjfenaaMe44
import Derived.Test.YtahhecendjfenaaMe45
import Derived.Test.YtahhecendjfenaaMe46
import Derived.Test.YtahhecendjfenaaMe1
section
/-
  ProtoEncodes, joined. (printed by pr_n3.py)
-/
namespace Go.Proofs.Ytahhecendjfenaa
open Go.RowKit
set_option linter.unusedVariables false
theorem May_any (w : World) (r : KC) (h : r.at_ w) (hwf : r.wf) :
    Calls Try.prog 51 #[.agg #[.int .i64 r.id, .int .i64 r.kind, .string (strOf r.name), .int .i64 r.to_, .int .u64 (r.co : Int), .int .i64 r.item, .int .i64 r.num, .int .i64 r.of_, .int .i64 r.e.acc, .int .i64 r.e.item, .int .u64 (r.e.co : Int), .int .u64 (r.e.pr : Int), .slice r.e.A r.e.n r.e.c, .int .i64 r.k.num, .int .i64 r.k.kind, .int .i64 r.k.by_, .int .i64 r.k.dl, .int .i64 r.k.to_, .int .i64 r.k.want, .int .u64 (r.k.pr : Int), .int .u64 (r.k.rs : Int), .int .u64 (r.k.st : Int), .int .i64 r.k.of_, .slice r.k.A r.k.n r.k.c]] w fun e w' => e = .returned (.bool r.ok) ∧ Fr (fun _ => False) w w' := by
  cases hf : r.fine with
  | false =>
    have hok : r.ok = false := by unfold KC.ok; rw [hf]; rfl
    rw [hok]
    exact May_unfine w r h hf
  | true =>
    have hk := (KC.fine_split hf).1
    have hd : r.kind = 1 ∨ r.kind = 2 ∨ r.kind = 3 ∨ r.kind = 4 ∨ r.kind = 5 ∨ r.kind = 6 ∨ r.kind = 7 ∨ r.kind = 8 ∨ r.kind = 9 ∨ r.kind = 10 ∨ r.kind = 11 ∨ r.kind = 12 ∨ r.kind = 13 ∨ r.kind = 14 := by omega
    rcases hd with e | e | e | e | e | e | e | e | e | e | e | e | e | e
    · exact May_fine1 w r h hwf hf e
    · exact May_fine2 w r h hwf hf e
    · exact May_fine3 w r h hwf hf e
    · exact May_fine4 w r h hwf hf e
    · exact May_fine5 w r h hwf hf e
    · exact May_fine6 w r h hwf hf e
    · exact May_fine7 w r h hwf hf e
    · exact May_fine8 w r h hwf hf e
    · exact May_fine9 w r h hwf hf e
    · exact May_fine10 w r h hwf hf e
    · exact May_fine11 w r h hwf hf e
    · exact May_fine12 w r h hwf hf e
    · exact May_fine13 w r h hwf hf e
    · exact May_fine14 w r h hwf hf e
theorem encodes_any (w : World) (r : KC) (k2 : Int) (h : r.at_ w) (hwf : r.wf) :
    Calls Try.prog 4 #[.agg #[.int .i64 r.id, .int .i64 r.kind, .string (strOf r.name), .int .i64 r.to_, .int .u64 (r.co : Int), .int .i64 r.item, .int .i64 r.num, .int .i64 r.of_, .int .i64 r.e.acc, .int .i64 r.e.item, .int .u64 (r.e.co : Int), .int .u64 (r.e.pr : Int), .slice r.e.A r.e.n r.e.c, .int .i64 r.k.num, .int .i64 r.k.kind, .int .i64 r.k.by_, .int .i64 r.k.dl, .int .i64 r.k.to_, .int .i64 r.k.want, .int .u64 (r.k.pr : Int), .int .u64 (r.k.rs : Int), .int .u64 (r.k.st : Int), .int .i64 r.k.of_, .slice r.k.A r.k.n r.k.c], .int .i64 k2] w fun e w' => e = .returned (.bool true) ∧ Below w.heap.size w w' :=
  encodes_walk (fun w1 q hq => command_any w1 q hq) (fun w1 q hq hw => May_any w1 q hq hw) w r k2 h hwf
end Go.Proofs.Ytahhecendjfenaa
end

section
/-
  Opening a slice of structs, the weights of its fields' own readings told too.
-/
namespace Go.Proofs.Ytahhecendjfenaa
open Go.ChangeShapes Go.WideShapes Go.ChangeAt Go.RowKit Go.Deep Go.Joins
set_option linter.unusedVariables false
section
variable {H : Type} {enc : TypeId × Value → H} {P : Program}
theorem weightsAll_mem {e : TypeId} {d : DataW H} {v : Nat} (hv : v ∈ d.weights P e) : ∀ {ds : List (DataW H)}, d ∈ ds → v ∈ DataW.weightsAll P e ds
  | d0 :: ds, h => by
    simp only [DataW.weightsAll, List.mem_append]
    rcases List.mem_cons.1 h with rfl | h
    · exact .inl hv
    · exact .inr (weightsAll_mem hv h)
theorem weights_slice {t e : TypeId} {el sp : List (DataW H)} {d : DataW H} {v : Nat} (ht : P.underlying t = some (.slice e)) (hd : d ∈ el) (hv : v ∈ d.weights P e) : v ∈ (DataW.slice el sp).weights P t := by
  simp only [DataW.weights, ht, List.mem_cons, List.mem_append]
  exact .inr (.inl (weightsAll_mem hv hd))
theorem weights_agg {t : TypeId} {fs : Array Field} {fl : Field} {ds : List (DataW H)} {d : DataW H} {j v : Nat} (ht : P.underlying t = some (.struct fs)) (hj : fs[j]? = some fl) (hd : ds[j]? = some d) (hv : v ∈ d.weights P fl.type) : v ∈ (DataW.agg ds).weights P t := by
  simp only [DataW.weights, ht]
  exact DataW.weights_mem_each (j := j) (t := fl.type) (by rw [List.getElem?_map]; simp [hj]) hd v hv
theorem weights_own {t e : TypeId} {el sp : List (DataW H)} (ht : P.underlying t = some (.slice e)) : (el.length + sp.length) * P.bytesOf e ∈ (DataW.slice el sp).weights P t := by
  simp only [DataW.weights, ht, List.mem_cons]
  exact .inl trivial
section
variable {w : World} {base : Nat} {spare : Nat → Bool} {held : Bool}
theorem open_structsW {t e : TypeId} {fs : Array Field} {fuel : Nat} {cs : List Value} {x : DataW H × List MemPlace} (ht : P.underlying t = some (.slice e)) (he : P.underlying e = some (.struct fs))
    (hone : oneCellFields P fs = true) (hC : P.cellsOf e = fs.size) (hpos : 0 < fs.size) (h : DataW.trod enc P w base spare held fuel t cs = some x) :
    ∃ (A : Option Addr) (n c : Nat) (f : Nat → Nat → Value), cs = [.slice A n c] ∧ n ≤ c ∧ c ≤ maxLen ∧ (n = 0 ∨ ∃ el sp, x.1 = .slice el sp ∧ el.length = n) ∧ Cells w w.heap.size A n fs.size f ∧
      ∀ i, i < n → ∀ (j : Nat) (fl : Field), fs[j]? = some fl → ∃ (y : DataW H × List MemPlace) (m : Nat), DataW.trod enc P w base spare held m fl.type [f i j] = some y ∧ ∀ v ∈ y.1.weights P fl.type, v ∈ x.1.weights P t := by
  rcases open_slice ht h with ⟨rfl, _⟩ | ⟨a, len, cap, m, k, D, Pl, rfl, _, hl, hm, hmm, hxx, hi⟩
  · exact ⟨none, 0, 0, fun _ _ => undef, rfl, Nat.le_refl _, Nat.zero_le _, .inl rfl, fun h => absurd h (by omega), fun i hi => absurd hi (by omega)⟩
  · have hlm : len ≤ m := by rw [hmm]; split <;> omega
    have hrow : ∀ i, i < len → ∃ r : Nat → Value, ∀ (j : Nat) (fl : Field), fs[j]? = some fl → w.cell? (a.add (i * fs.size + j)) = some (r j) ∧ ∃ (y : DataW H × List MemPlace) (m : Nat), DataW.trod enc P w base spare held m fl.type [r j] = some y ∧ ∀ v ∈ y.1.weights P fl.type, v ∈ x.1.weights P t := by
      intro i hil
      obtain ⟨cs', hc, ht'⟩ := hi i (by omega)
      rw [hC] at hc
      obtain ⟨ys, n', _, hD, _, hyl, hf⟩ := DataW.trod_struct he ht'
      obtain ⟨_, hcl, hat⟩ := World.cells?_some hc
      refine ⟨fun j => cs'.getD j undef, fun j fl hj => ?_⟩
      obtain ⟨ho, hk⟩ := hone_of hone j fl hj
      have hjl : j < fs.size := (Array.getElem?_eq_some_iff.1 hj).1
      have h1 := hf j fl hj
      rw [ho, hk, Deep.take1_drop _ _ undef (by omega)] at h1
      have hcell := hat j hjl
      rw [add_add] at hcell
      refine ⟨?_, ys[j]'(by omega), n', ?_, ?_⟩
      · rw [hcell]; show _ = some (cs'.getD j undef); rw [List.getD_eq_getElem?_getD, List.getElem?_eq_getElem (by omega)]; rfl
      · rw [h1]; exact List.getElem?_eq_getElem (by omega)
      · intro v hv
        have hD1 : D i = .agg (ys.map (·.1)) := (Prod.mk.injEq _ _ _ _ ▸ hD).1
        rw [hxx]
        refine weights_slice ht (List.mem_map.2 ⟨i, List.mem_range.2 hil, rfl⟩) ?_
        rw [hD1]
        exact weights_agg he hj (d := (ys[j]'(by omega)).1) (by rw [List.getElem?_map, List.getElem?_eq_getElem (by omega)]; rfl) hv
    have hch : ∃ r : Nat → Nat → Value, ∀ i, i < len → ∀ (j : Nat) (fl : Field), fs[j]? = some fl → w.cell? (a.add (i * fs.size + j)) = some (r i j) ∧ ∃ (y : DataW H × List MemPlace) (m : Nat), DataW.trod enc P w base spare held m fl.type [r i j] = some y ∧ ∀ v ∈ y.1.weights P fl.type, v ∈ x.1.weights P t :=
      ⟨fun i => if hil : i < len then Classical.choose (hrow i hil) else fun _ => undef, fun i hil => by simp only [dif_pos hil]; exact Classical.choose_spec (hrow i hil)⟩
    obtain ⟨r, hr⟩ := hch
    refine ⟨some a, len, cap, r, rfl, hl, hm, .inr ⟨_, _, by rw [hxx], by simp⟩, ?_, fun i hil j fl hj => (hr i hil j fl hj).2⟩
    intro hn
    have h0 := (hr 0 hn 0 (fs[0]'hpos) (Array.getElem?_eq_getElem hpos)).1
    have hs : a.spot = none := by simpa [Addr.add] using World.cell?_spot h0
    obtain ⟨b, o, sp⟩ := a
    simp only at hs
    subst hs
    refine ⟨b, o, rfl, by simpa [addBlock] using World.block_lt_of_cell? w _ h0, fun i j hil hj => ?_⟩
    have := (hr i hil j (fs[j]'hj) (Array.getElem?_eq_getElem hj)).1
    rw [Addr.add_lit] at this
    rwa [Nat.add_assoc]

end
end
end Go.Proofs.Ytahhecendjfenaa
end
