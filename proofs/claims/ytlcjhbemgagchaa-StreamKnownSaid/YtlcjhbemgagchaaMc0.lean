/-
  Texts merged into one, to keep the claim small: Mem, Frame, FrameW.
-/
import Derived.WalkKit
import Derived.Deep.Draws
import Derived.Lib.Hide
import Derived.StillTailTactics
import Derived.ProofKit
import Derived.OpenShut
import Derived.JoinedCond
import Derived.SizedLaws
import Derived.Deep.Slices
import Derived.Deep.Fields
import Derived.Lib.SmallJoins
section
/-
  Words for memory, over any program: a block that is known whole (Bl), a frame with a set of blocks that may turn (Fr), a slice that reads as a list of cells (Rd).
-/
namespace Go.Proofs.Ytlcjhbemgagchaa
open Go.RowKit
set_option linter.unusedVariables false

/-- A region that draws its order: n operations that only read, then a tail in one order; the world behind the draw is a letter of its own. -/
theorem region_tail {P : Program} {id : Nat} {Q : Exit → Act → World → Prop} {a : Act} {w : World} {l : List Oper} (n : Nat) (hm : P.follows .mixedOrders = true) (hB : Region.lexTailB .any l.toArray n = true)
    (h : ∀ w1 : World, Hid (w1 = w.drew) → (∀ p, w1.cell? p = w.cell? p) → (∀ p, w1.frozen? p = w.frozen? p) → w1.heap.size = w.heap.size →
      wpStill P l.toArray w1 (fun a' => wpList P l.toArray Q (l.drop n) a' w1) (l.take n) a) : (Code.region id l.toArray true).wp P Q a w :=
  wp_region_still_tail n hm hB (h w.drew rfl (fun _ => rfl) (fun _ => rfl) rfl)

theorem hide {p : Prop} (h : p) : Hid p := h
theorem quiet_left {P : Program} {f : FuncId} {args : Array Value} {w : World} {n : Nat} {v : Value}
    (h : Calls P f args (w.drewN n) fun e w' => e = .returned v ∧ w.drewN n = w') : Calls P f args (w.drewN n) fun e w'' => e = .returned v ∧ ∃ m, w'' = w.drewN m :=
  h.mono fun _ _ ⟨he, hm⟩ => ⟨he, n, hm.symm⟩

theorem addBlock (a : Addr) (n : Nat) : (a.add n).block = a.block := by unfold Addr.add; split <;> rfl
theorem addAdd (a : Addr) (i j : Nat) : (a.add i).add j = a.add (i + j) := by
  unfold Addr.add
  by_cases hi : i = 0 <;> by_cases hj : j = 0 <;> simp [hi, hj, Nat.add_assoc]

/-- Block g holds the cells cs, of element type t, all of them writable. -/
def Bl (w : World) (g : Nat) (t : TypeId) (cs : Array Value) : Prop := w.heap[g]? = some (.cells cs t (0, 0))

/-- Of the blocks that were there only those in S may have turned. -/
structure Fr (S : Nat → Prop) (w w' : World) : Prop where
  os : w'.os = w.os
  tape : w'.tape = w.tape
  output : w'.output = w.output
  size : w.heap.size ≤ w'.heap.size
  block : ∀ k, k < w.heap.size → ¬ S k → w'.heap[k]? = w.heap[k]?

section
variable {w w' w'' : World} {S T : Nat → Prop}
theorem Fr.refl (S : Nat → Prop) (w : World) : Fr S w w := ⟨rfl, rfl, rfl, Nat.le_refl _, fun _ _ _ => rfl⟩
theorem Fr.trans (h : Fr S w w') (k : Fr S w' w'') : Fr S w w'' :=
  ⟨k.os.trans h.os, k.tape.trans h.tape, k.output.trans h.output, Nat.le_trans h.size k.size,
    fun i hi hs => (k.block i (Nat.lt_of_lt_of_le hi h.size) hs).trans (h.block i hi hs)⟩
/-- One step behind another; what the second turns is new, or in S. -/
theorem Fr.comp (h : Fr S w w') (k : Fr T w' w'') (hT : ∀ i, i < w.heap.size → T i → S i) : Fr S w w'' :=
  ⟨k.os.trans h.os, k.tape.trans h.tape, k.output.trans h.output, Nat.le_trans h.size k.size,
    fun i hi hs => (k.block i (Nat.lt_of_lt_of_le hi h.size) fun ht => hs (hT i hi ht)).trans (h.block i hi hs)⟩
theorem Fr.mono (h : Fr S w w') (hST : ∀ k, k < w.heap.size → S k → T k) : Fr T w w' :=
  ⟨h.os, h.tape, h.output, h.size, fun k hk ht => h.block k hk fun hs => ht (hST k hk hs)⟩
theorem Fr.weak (h : Fr (fun _ => False) w w') (T : Nat → Prop) : Fr T w w' := h.mono fun _ _ hs => hs.elim
theorem Fr.drew (h : Fr S w w') : Fr S w w'.drew := ⟨h.os, h.tape, h.output, h.size, h.block⟩
theorem Fr.drewN (h : Fr S w w') (n : Nat) : Fr S w (w'.drewN n) := ⟨h.os, h.tape, h.output, h.size, h.block⟩
theorem Fr.alloc (h : Fr S w w') (o : Obj) : Fr S w (w'.alloc o) :=
  ⟨h.os, h.tape, h.output, Nat.le_trans h.size (by simp), fun k hk hs => (Below.heap_alloc w' o k (Nat.lt_of_lt_of_le hk h.size)).trans (h.block k hk hs)⟩
theorem Fr.set (h : Fr S w w') {p : Addr} (hp : S p.block ∨ w.heap.size ≤ p.block) (u : Value) : Fr S w (w'.setCell p u) :=
  ⟨h.os, h.tape, h.output, by simpa [World.setCell] using h.size, fun k hk hs => (Below.heap_setCell w' p u k (by
    rintro rfl
    rcases hp with hp | hp
    · exact hs hp
    · omega)).trans (h.block k hk hs)⟩
theorem Fr.setAt {p i : Nat} (h : Fr (· = p) w w') (u : Value) : Fr (· = p) w (w'.setCell ⟨p, i, none⟩ u) := Fr.set (S := fun x => x = p) h (.inl rfl) u
theorem Fr.setIn {p i : Nat} (h : Fr S w w') (hp : S p ∨ w.heap.size ≤ p) (u : Value) : Fr S w (w'.setCell ⟨p, i, none⟩ u) := h.set hp u
theorem Fr.ofBelow {B : Nat} (h : Below B w w') : Fr (fun k => B ≤ k) w w' := ⟨h.os, h.tape, h.output, h.size, fun k _ hs => h.block k (Nat.lt_of_not_le hs)⟩
theorem Fr.toBelow {B : Nat} (h : Fr S w w') (hB : B ≤ w.heap.size) (hS : ∀ k, k < B → ¬ S k) : Below B w w' :=
  ⟨h.os, h.tape, h.output, h.size, fun k hk => h.block k (Nat.lt_of_lt_of_le hk hB) (hS k hk)⟩
theorem Fr.ofGrown {row : Option Nat} (h : w.grownBy w' row) : Fr (fun k => some k = row) w w' := ⟨h.os, h.tape, h.output, h.size, fun k hk hs => h.block k hk hs⟩
theorem Fr.cell (h : Fr S w w') {p : Addr} (hp : p.block < w.heap.size) (hs : ¬ S p.block) : w'.cell? p = w.cell? p := World.cell?_of_block (w := w) (h.block p.block hp hs)
theorem Fr.frozen (h : Fr S w w') {p : Addr} (hp : p.block < w.heap.size) (hs : ¬ S p.block) : w'.frozen? p = w.frozen? p := World.frozen?_of_block (w := w) (h.block p.block hp hs)
end

section
variable {w w' : World} {g : Nat} {t : TypeId} {cs : Array Value}
theorem Bl.lt (h : Bl w g t cs) : g < w.heap.size := by
  rcases Nat.lt_or_ge g w.heap.size with hlt | hge
  · exact hlt
  · unfold Bl at h; rw [Array.getElem?_eq_none hge] at h; cases h
theorem Bl.cell (h : Bl w g t cs) (i : Nat) : w.cell? ⟨g, i, none⟩ = cs[i]? := by
  unfold Bl at h; simp [World.cell?, h]
theorem Bl.cell' (h : Bl w g t cs) {i : Nat} {v : Value} (hv : cs[i]? = some v) : w.cell? ⟨g, i, none⟩ = some v := (h.cell i).trans hv
theorem Bl.free (h : Bl w g t cs) (i : Nat) : w.frozen? ⟨g, i, none⟩ = false := by
  unfold Bl at h; simp [World.frozen?, h]
theorem Bl.new (w : World) (t : TypeId) (cs : Array Value) : Bl (w.alloc (.cells cs t)) w.heap.size t cs := heap_alloc_new w _
theorem Bl.newAt {w : World} {g : Nat} {t : TypeId} {cs : Array Value} (h : g = w.heap.size) : Bl (w.alloc (.cells cs t)) g t cs := by subst h; exact Bl.new _ _ _
theorem Bl.drew (h : Bl w g t cs) : Bl w.drew g t cs := h
theorem Bl.drewN (h : Bl w g t cs) (n : Nat) : Bl (w.drewN n) g t cs := h
theorem Bl.alloc (h : Bl w g t cs) (o : Obj) : Bl (w.alloc o) g t cs := (Below.heap_alloc w o g h.lt).trans h
theorem Bl.set (h : Bl w g t cs) (i : Nat) (u : Value) : Bl (w.setCell ⟨g, i, none⟩ u) g t (cs.setIfInBounds i u) := by
  unfold Bl at h ⊢
  simp [World.setCell, Array.getElem?_modify, h]
theorem Bl.far (h : Bl w g t cs) {p : Addr} (hp : g ≠ p.block) (u : Value) : Bl (w.setCell p u) g t cs := (Below.heap_setCell w p u g hp).trans h
theorem Bl.fr {S : Nat → Prop} (h : Bl w g t cs) (hf : Fr S w w') (hg : ¬ S g) : Bl w' g t cs := (hf.block g h.lt hg).trans h
theorem Bl.same {cs' : Array Value} {t' : TypeId} (h : Bl w g t cs) (h' : Bl w g t' cs') : cs = cs' ∧ t = t' := by
  unfold Bl at h h'; rw [h] at h'; injection h' with h'; injection h' with a b; exact ⟨a, b⟩
theorem Bl.apart {g' : Nat} {t' : TypeId} {cs' : Array Value} (h : Bl w g t cs) (h' : Bl w g' t' cs') (hne : t ≠ t') : g ≠ g' := by
  rintro rfl; exact hne (h.same h').2
end

/-- The slice value '.slice A n c' holds the cells xs (size cells an element), all of them below block B. -/
def Rd (w : World) (B size : Nat) (A : Option Addr) (n : Nat) (xs : List Value) : Prop :=
  xs.length = n * size ∧ (0 < n → ∃ ad, A = some ad ∧ ad.block < B ∧ ∀ j u, xs[j]? = some u → w.cell? (ad.add j) = some u)

section
variable {w w' : World} {B B' size n : Nat} {A : Option Addr} {xs : List Value}
theorem Rd.keep (h : Rd w B size A n xs) (hk : ∀ p : Addr, p.block < B → w'.cell? p = w.cell? p) : Rd w' B size A n xs :=
  ⟨h.1, fun hn => by
    obtain ⟨ad, e, hb, hc⟩ := h.2 hn
    exact ⟨ad, e, hb, fun j u hu => (hk _ (by rw [addBlock]; exact hb)).trans (hc j u hu)⟩⟩
theorem Rd.fr {S : Nat → Prop} (h : Rd w B size A n xs) (hf : Fr S w w') (hB : B ≤ w.heap.size) (hS : ∀ k, k < B → ¬ S k) : Rd w' B size A n xs :=
  h.keep fun _ hp => hf.cell (Nat.lt_of_lt_of_le hp hB) (hS _ hp)
theorem Rd.below (h : Rd w B size A n xs) (hb : Below B w w') : Rd w' B size A n xs := h.keep fun _ hp => hb.cell hp
theorem Rd.more (h : Rd w B size A n xs) (hB : B ≤ B') : Rd w B' size A n xs :=
  ⟨h.1, fun hn => by
    obtain ⟨ad, e, hb, hc⟩ := h.2 hn
    exact ⟨ad, e, Nat.lt_of_lt_of_le hb hB, hc⟩⟩
/-- cell j of element i. -/
theorem Rd.get (h : Rd w B size A n xs) {i j : Nat} {u : Value} (hu : xs[i * size + j]? = some u) (hi : i < n) :
    ∃ b o, A = some ⟨b, o, none⟩ ∧ b < B ∧ w.cell? ⟨b, o + (i * size + j), none⟩ = some u := by
  obtain ⟨ad, e, hb, hc⟩ := h.2 (by omega)
  have h0 : xs ≠ [] := by rintro rfl; simp at hu
  obtain ⟨x0, xr, hx⟩ := List.exists_cons_of_ne_nil h0
  have h00 := hc 0 x0 (by rw [hx]; rfl)
  have hs : ad.spot = none := by simpa [Addr.add] using World.cell?_spot h00
  obtain ⟨b, o, sp⟩ := ad
  simp only at hs
  subst hs
  refine ⟨b, o, e, hb, ?_⟩
  have := hc _ u hu
  rwa [Addr.add_lit] at this
end

/-- The slice value '.slice A n c' leads to n elements of size cells each: cell j of element i is f i j; it lies below block B. -/
def Cells (w : World) (B : Nat) (A : Option Addr) (n size : Nat) (f : Nat → Nat → Value) : Prop :=
  0 < n → ∃ b o, A = some ⟨b, o, none⟩ ∧ b < B ∧ ∀ i j, i < n → j < size → w.cell? ⟨b, o + i * size + j, none⟩ = some (f i j)
theorem Cells.fr {w w' : World} {B n size : Nat} {A : Option Addr} {f : Nat → Nat → Value} {S : Nat → Prop} (h : Cells w B A n size f) (hf : Fr S w w') (hB : B ≤ w.heap.size) (hS : ∀ k, k < B → ¬ S k) : Cells w' B A n size f := by
  intro hn
  obtain ⟨b, o, hA, hb, hc⟩ := h hn
  exact ⟨b, o, hA, hb, fun i j hi hj => (hf.cell (p := ⟨b, o + i * size + j, none⟩) (Nat.lt_of_lt_of_le hb hB) (hS _ hb)).trans (hc i j hi hj)⟩
#print axioms Rd.get
end Go.Proofs.Ytlcjhbemgagchaa
end

section
/-
  The frame of a law's statement, over any program: if the call returns true and leaves all that was there, the row's post holds. And how arguments are opened: slices of structs of one-cell fields, slices of one-cell elements.
-/
namespace Go.Proofs.Ytlcjhbemgagchaa
open Go.ChangeShapes Go.WideShapes Go.ChangeAt Go.RowKit Go.Deep Go.Joins
set_option linter.unusedVariables false

section
variable {H : Type} {enc : TypeId × Value → H} {P : Program}

theorem args_kept (hl : laidOutB P = true) {W W' : World} (hb : Below W.heap.size W W') : ∀ {ts : List TypeId} {vs : List Value} {ds : List (DataW H)} {ps : List MemPlace},
    (∀ t ∈ ts, P.readableRec t = true ∧ t < P.types.size) → (∀ x ∈ ps, x.block < W.heap.size) → DataW.TrodAll enc P W 0 (fun _ => true) true ts vs ds ps → DataW.TrodAll enc P W' 0 (fun b => decide (b < W.heap.size)) true ts vs ds ps
  | [], vs, ds, ps, _, _, h => by
    obtain ⟨rfl, rfl, rfl⟩ := trodAll_nil h
    exact trodAll_mk0
  | t :: ts, vs, ds, ps, hr, hlt, h => by
    obtain ⟨v0, vs0, d0, ds0, p0, q0, rfl, rfl, rfl, h0, r0⟩ := trodAll_cons h
    exact trodAll_cons_mk (Below.trod hl (hr t (by simp)).1 (hr t (by simp)).2 h0 hb fun x hx => hlt x (by simp [hx])) (args_kept hl hb (fun t' ht => hr t' (by simp [ht])) (fun x hx => hlt x (by simp [hx])) r0)

theorem trodAll_length {w : World} {base : Nat} {spare : Nat → Bool} {held : Bool} : ∀ {ts : List TypeId} {vs : List Value} {ds : List (DataW H)} {ps : List MemPlace}, DataW.TrodAll enc P w base spare held ts vs ds ps → ds.length = ts.length ∧ vs.length = ts.length
  | [], vs, ds, ps, h => by obtain ⟨rfl, rfl, rfl⟩ := trodAll_nil h; exact ⟨rfl, rfl⟩
  | t :: ts, vs, ds, ps, h => by
    obtain ⟨v0, vs0, d0, ds0, p0, q0, rfl, rfl, rfl, h0, r0⟩ := trodAll_cons h
    obtain ⟨a, b⟩ := trodAll_length r0
    exact ⟨by simp [a], by simp [b]⟩

theorem law_contract {f : FuncId} {fn : Func} {s : ChangeSpec} {tb : TypeId} (hlaid : laidOutB P = true) (hread : ∀ t ∈ fn.params.toList, P.readableRec t = true ∧ t < P.types.size)
    (hres : fn.resultTypes = #[tb]) (hb : P.underlying tb = some .bool) (hvars : s.vars = [])
    (hs : ∀ (ds : List (DataW H)), ds.length = fn.params.size → (s.fn H (ds ++ [])).results = [.lit (.bool true)] ∧ (s.fn H (ds ++ [])).args = ds ∧ (s.fn H (ds ++ [])).vars = [])
    {W : World} {args : Array Value} {ds gs : List (DataW H)} {before : List MemPlace} (hW : DataW.Whole enc P fn.params.toList s.vars false W args.toList ds gs before)
    (hcall : Calls P f args W fun e w' => e = .returned (.bool true) ∧ Below W.heap.size W w') :
    Calls P f args W fun e W' => ∃ v, e = .returned v ∧ s.post enc P fn false true false false W args v W' := by
  have hW' := hW
  have hlt : ∀ x ∈ before, x.block < W.heap.size := fun x hx => hW.lt x hx
  obtain ⟨p, q, hA0, hV, rfl, hfz, hnd⟩ := hW
  rw [hvars] at hV
  obtain ⟨rfl, rfl⟩ := trodVars_none hV
  refine hcall.mono fun e W' ⟨he, bel⟩ => ?_
  obtain ⟨e1, e2, e3⟩ := hs ds (by simpa using (trodAll_length hA0).1)
  refine ⟨_, he, ds, [], p ++ [], [], p, [], hW', ?_, ?_, ?_, bel.frame _, fun h => by cases h⟩
  · rw [hres, e1]; exact trodAll_mk1 (shut_bool hb true)
  · rw [e2]; exact args_kept hlaid bel hread (fun x hx => hlt x (by simp [hx])) hA0
  · rw [hvars, e3]; rfl

section
variable {w : World} {base : Nat} {spare : Nat → Bool} {held : Bool}

/-- A slice of structs of one-cell fields: its cells, and each field's own reading. -/
theorem open_structs {t e : TypeId} {fs : Array Field} {fuel : Nat} {cs : List Value} {x : DataW H × List MemPlace} (ht : P.underlying t = some (.slice e)) (he : P.underlying e = some (.struct fs))
    (hone : oneCellFields P fs = true) (hC : P.cellsOf e = fs.size) (hpos : 0 < fs.size) (h : DataW.trod enc P w base spare held fuel t cs = some x) :
    ∃ (A : Option Addr) (n c : Nat) (f : Nat → Nat → Value), cs = [.slice A n c] ∧ n ≤ c ∧ c ≤ maxLen ∧ (n = 0 ∨ ∃ el sp, x.1 = .slice el sp ∧ el.length = n) ∧ Cells w w.heap.size A n fs.size f ∧
      ∀ i, i < n → ∀ (j : Nat) (fl : Field), fs[j]? = some fl → ∃ (y : DataW H × List MemPlace) (m : Nat), DataW.trod enc P w base spare held m fl.type [f i j] = some y := by
  rcases open_slice ht h with ⟨rfl, _⟩ | ⟨a, len, cap, m, k, D, Pl, rfl, _, hl, hm, hmm, hxx, hi⟩
  · exact ⟨none, 0, 0, fun _ _ => undef, rfl, Nat.le_refl _, Nat.zero_le _, .inl rfl, fun h => absurd h (by omega), fun i hi => absurd hi (by omega)⟩
  · have hlm : len ≤ m := by rw [hmm]; split <;> omega
    have hrow : ∀ i, i < len → ∃ r : Nat → Value, ∀ (j : Nat) (fl : Field), fs[j]? = some fl → w.cell? (a.add (i * fs.size + j)) = some (r j) ∧ ∃ (y : DataW H × List MemPlace) (m : Nat), DataW.trod enc P w base spare held m fl.type [r j] = some y := by
      intro i hil
      obtain ⟨cs', hc, ht'⟩ := hi i (by omega)
      rw [hC] at hc
      obtain ⟨ys, n', _, _, _, hyl, hf⟩ := DataW.trod_struct he ht'
      obtain ⟨_, hcl, hat⟩ := World.cells?_some hc
      refine ⟨fun j => cs'.getD j undef, fun j fl hj => ?_⟩
      obtain ⟨ho, hk⟩ := hone_of hone j fl hj
      have hjl : j < fs.size := (Array.getElem?_eq_some_iff.1 hj).1
      have h1 := hf j fl hj
      rw [ho, hk, Deep.take1_drop _ _ undef (by omega)] at h1
      have hcell := hat j hjl
      rw [add_add] at hcell
      refine ⟨?_, ys[j]'(by omega), n', ?_⟩
      · rw [hcell]; show _ = some (cs'.getD j undef); rw [List.getD_eq_getElem?_getD, List.getElem?_eq_getElem (by omega)]; rfl
      · rw [h1]; exact List.getElem?_eq_getElem (by omega)
    have hch : ∃ r : Nat → Nat → Value, ∀ i, i < len → ∀ (j : Nat) (fl : Field), fs[j]? = some fl → w.cell? (a.add (i * fs.size + j)) = some (r i j) ∧ ∃ (y : DataW H × List MemPlace) (m : Nat), DataW.trod enc P w base spare held m fl.type [r i j] = some y :=
      ⟨fun i => if hil : i < len then Classical.choose (hrow i hil) else fun _ => undef, fun i hil => by simp only [dif_pos hil]; exact Classical.choose_spec (hrow i hil)⟩
    obtain ⟨r, hr⟩ := hch
    refine ⟨some a, len, cap, r, rfl, hl, hm, .inr ⟨_, _, by rw [hxx], by simp⟩, ?_, fun i hil j fl hj => (hr i hil j fl hj).2⟩
    intro hn
    have h0 := (hr 0 hn 0 (fs[0]'hpos) (Array.getElem?_eq_getElem hpos)).1
    have hs : a.spot = none := by simpa [Addr.add] using World.cell?_spot h0
    obtain ⟨b, o, sp⟩ := a
    simp only at hs
    subst hs
    refine ⟨b, o, rfl, by simpa [addBlock] using World.block_lt_of_cell? w _ h0, fun i j hil hj => ?_⟩
    have := (hr i hil j (fs[j]'hj) (Array.getElem?_eq_getElem hj)).1
    rw [Addr.add_lit] at this
    rwa [Nat.add_assoc]

/-- A slice of elements of one cell each. -/
theorem open_ones {t e : TypeId} {fuel : Nat} {cs : List Value} {x : DataW H × List MemPlace} (ht : P.underlying t = some (.slice e)) (hC : P.cellsOf e = 1) (h : DataW.trod enc P w base spare held fuel t cs = some x) :
    ∃ (A : Option Addr) (n c : Nat) (f : Nat → Nat → Value), cs = [.slice A n c] ∧ n ≤ c ∧ c ≤ maxLen ∧ (n = 0 ∨ ∃ el sp, x.1 = .slice el sp ∧ el.length = n) ∧ Cells w w.heap.size A n 1 f ∧
      ∀ i, i < n → ∃ (y : DataW H × List MemPlace) (m : Nat), DataW.trod enc P w base spare held m e [f i 0] = some y := by
  rcases open_slice ht h with ⟨rfl, _⟩ | ⟨a, len, cap, m, k, D, Pl, rfl, _, hl, hm, hmm, hxx, hi⟩
  · exact ⟨none, 0, 0, fun _ _ => undef, rfl, Nat.le_refl _, Nat.zero_le _, .inl rfl, fun h => absurd h (by omega), fun i hi => absurd hi (by omega)⟩
  · have hlm : len ≤ m := by rw [hmm]; split <;> omega
    have hrow : ∀ i, i < len → ∃ v : Value, w.cell? (a.add i) = some v ∧ ∃ (y : DataW H × List MemPlace) (m : Nat), DataW.trod enc P w base spare held m e [v] = some y := by
      intro i hil
      obtain ⟨cs', hc, ht'⟩ := hi i (by omega)
      rw [hC] at hc
      obtain ⟨_, hcl, hat⟩ := World.cells?_some hc
      match cs', hcl with
      | [v], _ =>
        have := hat 0 (by omega)
        rw [add_add, Nat.mul_one, Nat.add_zero] at this
        exact ⟨v, this, _, _, ht'⟩
    have hch : ∃ r : Nat → Value, ∀ i, i < len → w.cell? (a.add i) = some (r i) ∧ ∃ (y : DataW H × List MemPlace) (m : Nat), DataW.trod enc P w base spare held m e [r i] = some y :=
      ⟨fun i => if hil : i < len then Classical.choose (hrow i hil) else undef, fun i hil => by simp only [dif_pos hil]; exact Classical.choose_spec (hrow i hil)⟩
    obtain ⟨r, hr⟩ := hch
    refine ⟨some a, len, cap, fun i _ => r i, rfl, hl, hm, .inr ⟨_, _, by rw [hxx], by simp⟩, ?_, fun i hil => (hr i hil).2⟩
    intro hn
    have h0 := (hr 0 hn).1
    have hs : a.spot = none := by simpa [Addr.add] using World.cell?_spot h0
    obtain ⟨b, o, sp⟩ := a
    simp only at hs
    subst hs
    refine ⟨b, o, rfl, by simpa [addBlock] using World.block_lt_of_cell? w _ h0, fun i j hil hj => ?_⟩
    have := (hr i hil).1
    obtain rfl : j = 0 := by omega
    rw [Addr.add_lit] at this
    simpa using this
end
end

theorem bd64 {n : Int} (h : (Lit.int .i64 n).wf = true) : -9223372036854775808 ≤ n ∧ n ≤ 9223372036854775807 := by
  simpa [Lit.wf, IntKind.min, IntKind.max, IntKind.signed, IntKind.bits] using h
theorem bdu64 {n : Int} (h : (Lit.int .u64 n).wf = true) : 0 ≤ n ∧ n ≤ 18446744073709551615 := by
  simpa [Lit.wf, IntKind.min, IntKind.max, IntKind.signed, IntKind.bits] using h
theorem bdu8 {n : Int} (h : (Lit.int .u8 n).wf = true) : 0 ≤ n ∧ n ≤ 255 := by
  simpa [Lit.wf, IntKind.min, IntKind.max, IntKind.signed, IntKind.bits] using h

#print axioms law_contract
#print axioms open_structs
#print axioms open_ones
end Go.Proofs.Ytlcjhbemgagchaa
end

section
/-
  Opening a slice of structs, the weights of its fields' own readings told too.
-/
namespace Go.Proofs.Ytlcjhbemgagchaa
open Go.ChangeShapes Go.WideShapes Go.ChangeAt Go.RowKit Go.Deep Go.Joins
set_option linter.unusedVariables false
section
variable {H : Type} {enc : TypeId × Value → H} {P : Program}
theorem weightsAll_mem {e : TypeId} {d : DataW H} {v : Nat} (hv : v ∈ d.weights P e) : ∀ {ds : List (DataW H)}, d ∈ ds → v ∈ DataW.weightsAll P e ds
  | d0 :: ds, h => by
    simp only [DataW.weightsAll, List.mem_append]
    rcases List.mem_cons.1 h with rfl | h
    · exact .inl hv
    · exact .inr (weightsAll_mem hv h)
theorem weights_slice {t e : TypeId} {el sp : List (DataW H)} {d : DataW H} {v : Nat} (ht : P.underlying t = some (.slice e)) (hd : d ∈ el) (hv : v ∈ d.weights P e) : v ∈ (DataW.slice el sp).weights P t := by
  simp only [DataW.weights, ht, List.mem_cons, List.mem_append]
  exact .inr (.inl (weightsAll_mem hv hd))
theorem weights_agg {t : TypeId} {fs : Array Field} {fl : Field} {ds : List (DataW H)} {d : DataW H} {j v : Nat} (ht : P.underlying t = some (.struct fs)) (hj : fs[j]? = some fl) (hd : ds[j]? = some d) (hv : v ∈ d.weights P fl.type) : v ∈ (DataW.agg ds).weights P t := by
  simp only [DataW.weights, ht]
  exact DataW.weights_mem_each (j := j) (t := fl.type) (by rw [List.getElem?_map]; simp [hj]) hd v hv
theorem weights_own {t e : TypeId} {el sp : List (DataW H)} (ht : P.underlying t = some (.slice e)) : (el.length + sp.length) * P.bytesOf e ∈ (DataW.slice el sp).weights P t := by
  simp only [DataW.weights, ht, List.mem_cons]
  exact .inl trivial
section
variable {w : World} {base : Nat} {spare : Nat → Bool} {held : Bool}
theorem open_structsW {t e : TypeId} {fs : Array Field} {fuel : Nat} {cs : List Value} {x : DataW H × List MemPlace} (ht : P.underlying t = some (.slice e)) (he : P.underlying e = some (.struct fs))
    (hone : oneCellFields P fs = true) (hC : P.cellsOf e = fs.size) (hpos : 0 < fs.size) (h : DataW.trod enc P w base spare held fuel t cs = some x) :
    ∃ (A : Option Addr) (n c : Nat) (f : Nat → Nat → Value), cs = [.slice A n c] ∧ n ≤ c ∧ c ≤ maxLen ∧ (n = 0 ∨ ∃ el sp, x.1 = .slice el sp ∧ el.length = n) ∧ Cells w w.heap.size A n fs.size f ∧
      ∀ i, i < n → ∀ (j : Nat) (fl : Field), fs[j]? = some fl → ∃ (y : DataW H × List MemPlace) (m : Nat), DataW.trod enc P w base spare held m fl.type [f i j] = some y ∧ ∀ v ∈ y.1.weights P fl.type, v ∈ x.1.weights P t := by
  rcases open_slice ht h with ⟨rfl, _⟩ | ⟨a, len, cap, m, k, D, Pl, rfl, _, hl, hm, hmm, hxx, hi⟩
  · exact ⟨none, 0, 0, fun _ _ => undef, rfl, Nat.le_refl _, Nat.zero_le _, .inl rfl, fun h => absurd h (by omega), fun i hi => absurd hi (by omega)⟩
  · have hlm : len ≤ m := by rw [hmm]; split <;> omega
    have hrow : ∀ i, i < len → ∃ r : Nat → Value, ∀ (j : Nat) (fl : Field), fs[j]? = some fl → w.cell? (a.add (i * fs.size + j)) = some (r j) ∧ ∃ (y : DataW H × List MemPlace) (m : Nat), DataW.trod enc P w base spare held m fl.type [r j] = some y ∧ ∀ v ∈ y.1.weights P fl.type, v ∈ x.1.weights P t := by
      intro i hil
      obtain ⟨cs', hc, ht'⟩ := hi i (by omega)
      rw [hC] at hc
      obtain ⟨ys, n', _, hD, _, hyl, hf⟩ := DataW.trod_struct he ht'
      obtain ⟨_, hcl, hat⟩ := World.cells?_some hc
      refine ⟨fun j => cs'.getD j undef, fun j fl hj => ?_⟩
      obtain ⟨ho, hk⟩ := hone_of hone j fl hj
      have hjl : j < fs.size := (Array.getElem?_eq_some_iff.1 hj).1
      have h1 := hf j fl hj
      rw [ho, hk, Deep.take1_drop _ _ undef (by omega)] at h1
      have hcell := hat j hjl
      rw [add_add] at hcell
      refine ⟨?_, ys[j]'(by omega), n', ?_, ?_⟩
      · rw [hcell]; show _ = some (cs'.getD j undef); rw [List.getD_eq_getElem?_getD, List.getElem?_eq_getElem (by omega)]; rfl
      · rw [h1]; exact List.getElem?_eq_getElem (by omega)
      · intro v hv
        have hD1 : D i = .agg (ys.map (·.1)) := (Prod.mk.injEq _ _ _ _ ▸ hD).1
        rw [hxx]
        refine weights_slice ht (List.mem_map.2 ⟨i, List.mem_range.2 hil, rfl⟩) ?_
        rw [hD1]
        exact weights_agg he hj (d := (ys[j]'(by omega)).1) (by rw [List.getElem?_map, List.getElem?_eq_getElem (by omega)]; rfl) hv
    have hch : ∃ r : Nat → Nat → Value, ∀ i, i < len → ∀ (j : Nat) (fl : Field), fs[j]? = some fl → w.cell? (a.add (i * fs.size + j)) = some (r i j) ∧ ∃ (y : DataW H × List MemPlace) (m : Nat), DataW.trod enc P w base spare held m fl.type [r i j] = some y ∧ ∀ v ∈ y.1.weights P fl.type, v ∈ x.1.weights P t :=
      ⟨fun i => if hil : i < len then Classical.choose (hrow i hil) else fun _ => undef, fun i hil => by simp only [dif_pos hil]; exact Classical.choose_spec (hrow i hil)⟩
    obtain ⟨r, hr⟩ := hch
    refine ⟨some a, len, cap, r, rfl, hl, hm, .inr ⟨_, _, by rw [hxx], by simp⟩, ?_, fun i hil j fl hj => (hr i hil j fl hj).2⟩
    intro hn
    have h0 := (hr 0 hn 0 (fs[0]'hpos) (Array.getElem?_eq_getElem hpos)).1
    have hs : a.spot = none := by simpa [Addr.add] using World.cell?_spot h0
    obtain ⟨b, o, sp⟩ := a
    simp only at hs
    subst hs
    refine ⟨b, o, rfl, by simpa [addBlock] using World.block_lt_of_cell? w _ h0, fun i j hil hj => ?_⟩
    have := (hr i hil j (fs[j]'hj) (Array.getElem?_eq_getElem hj)).1
    rw [Addr.add_lit] at this
    rwa [Nat.add_assoc]

end
end
end Go.Proofs.Ytlcjhbemgagchaa
end
