/-
  Texts merged into one, to keep the claim small: Frame, Row.
-/
import Derived.Test.YtahhecendjfenaaMem
import Derived.ProofKit
import Derived.OpenShut
import Derived.JoinedCond
import Derived.SizedLaws
import Derived.Deep.Slices
import Derived.Deep.Fields
import Derived.Lib.SmallJoins
import Derived.Laws.Rows
import Derived.Laws.Tables
import Derived.Deep.WholeRow
import Derived.Laws.CopyRow
section
/-
  The frame of a law's statement, over any program: if the call returns true and leaves all that was there, the row's post holds. And how arguments are opened: slices of structs of one-cell fields, slices of one-cell elements.
-/
namespace Go.Proofs.Ytahhecendjfenaa
open Go.ChangeShapes Go.WideShapes Go.ChangeAt Go.RowKit Go.Deep Go.Joins
set_option linter.unusedVariables false

section
variable {H : Type} {enc : TypeId × Value → H} {P : Program}

theorem args_kept (hl : laidOutB P = true) {W W' : World} (hb : Below W.heap.size W W') : ∀ {ts : List TypeId} {vs : List Value} {ds : List (DataW H)} {ps : List MemPlace},
    (∀ t ∈ ts, P.readableRec t = true ∧ t < P.types.size) → (∀ x ∈ ps, x.block < W.heap.size) → DataW.TrodAll enc P W 0 (fun _ => true) true ts vs ds ps → DataW.TrodAll enc P W' 0 (fun b => decide (b < W.heap.size)) true ts vs ds ps
  | [], vs, ds, ps, _, _, h => by
    obtain ⟨rfl, rfl, rfl⟩ := trodAll_nil h
    exact trodAll_mk0
  | t :: ts, vs, ds, ps, hr, hlt, h => by
    obtain ⟨v0, vs0, d0, ds0, p0, q0, rfl, rfl, rfl, h0, r0⟩ := trodAll_cons h
    exact trodAll_cons_mk (Below.trod hl (hr t (by simp)).1 (hr t (by simp)).2 h0 hb fun x hx => hlt x (by simp [hx])) (args_kept hl hb (fun t' ht => hr t' (by simp [ht])) (fun x hx => hlt x (by simp [hx])) r0)

theorem trodAll_length {w : World} {base : Nat} {spare : Nat → Bool} {held : Bool} : ∀ {ts : List TypeId} {vs : List Value} {ds : List (DataW H)} {ps : List MemPlace}, DataW.TrodAll enc P w base spare held ts vs ds ps → ds.length = ts.length ∧ vs.length = ts.length
  | [], vs, ds, ps, h => by obtain ⟨rfl, rfl, rfl⟩ := trodAll_nil h; exact ⟨rfl, rfl⟩
  | t :: ts, vs, ds, ps, h => by
    obtain ⟨v0, vs0, d0, ds0, p0, q0, rfl, rfl, rfl, h0, r0⟩ := trodAll_cons h
    obtain ⟨a, b⟩ := trodAll_length r0
    exact ⟨by simp [a], by simp [b]⟩

theorem law_contract {f : FuncId} {fn : Func} {s : ChangeSpec} {tb : TypeId} (hlaid : laidOutB P = true) (hread : ∀ t ∈ fn.params.toList, P.readableRec t = true ∧ t < P.types.size)
    (hres : fn.resultTypes = #[tb]) (hb : P.underlying tb = some .bool) (hvars : s.vars = [])
    (hs : ∀ (ds : List (DataW H)), ds.length = fn.params.size → (s.fn H (ds ++ [])).results = [.lit (.bool true)] ∧ (s.fn H (ds ++ [])).args = ds ∧ (s.fn H (ds ++ [])).vars = [])
    {W : World} {args : Array Value} {ds gs : List (DataW H)} {before : List MemPlace} (hW : DataW.Whole enc P fn.params.toList s.vars false W args.toList ds gs before)
    (hcall : Calls P f args W fun e w' => e = .returned (.bool true) ∧ Below W.heap.size W w') :
    Calls P f args W fun e W' => ∃ v, e = .returned v ∧ s.post enc P fn false true false false W args v W' := by
  have hW' := hW
  have hlt : ∀ x ∈ before, x.block < W.heap.size := fun x hx => hW.lt x hx
  obtain ⟨p, q, hA0, hV, rfl, hfz, hnd⟩ := hW
  rw [hvars] at hV
  obtain ⟨rfl, rfl⟩ := trodVars_none hV
  refine hcall.mono fun e W' ⟨he, bel⟩ => ?_
  obtain ⟨e1, e2, e3⟩ := hs ds (by simpa using (trodAll_length hA0).1)
  refine ⟨_, he, ds, [], p ++ [], [], p, [], hW', ?_, ?_, ?_, bel.frame _, fun h => by cases h⟩
  · rw [hres, e1]; exact trodAll_mk1 (shut_bool hb true)
  · rw [e2]; exact args_kept hlaid bel hread (fun x hx => hlt x (by simp [hx])) hA0
  · rw [hvars, e3]; rfl

section
variable {w : World} {base : Nat} {spare : Nat → Bool} {held : Bool}

/-- A slice of structs of one-cell fields: its cells, and each field's own reading. -/
theorem open_structs {t e : TypeId} {fs : Array Field} {fuel : Nat} {cs : List Value} {x : DataW H × List MemPlace} (ht : P.underlying t = some (.slice e)) (he : P.underlying e = some (.struct fs))
    (hone : oneCellFields P fs = true) (hC : P.cellsOf e = fs.size) (hpos : 0 < fs.size) (h : DataW.trod enc P w base spare held fuel t cs = some x) :
    ∃ (A : Option Addr) (n c : Nat) (f : Nat → Nat → Value), cs = [.slice A n c] ∧ n ≤ c ∧ c ≤ maxLen ∧ (n = 0 ∨ ∃ el sp, x.1 = .slice el sp ∧ el.length = n) ∧ Cells w w.heap.size A n fs.size f ∧
      ∀ i, i < n → ∀ (j : Nat) (fl : Field), fs[j]? = some fl → ∃ (y : DataW H × List MemPlace) (m : Nat), DataW.trod enc P w base spare held m fl.type [f i j] = some y := by
  rcases open_slice ht h with ⟨rfl, _⟩ | ⟨a, len, cap, m, k, D, Pl, rfl, _, hl, hm, hmm, hxx, hi⟩
  · exact ⟨none, 0, 0, fun _ _ => undef, rfl, Nat.le_refl _, Nat.zero_le _, .inl rfl, fun h => absurd h (by omega), fun i hi => absurd hi (by omega)⟩
  · have hlm : len ≤ m := by rw [hmm]; split <;> omega
    have hrow : ∀ i, i < len → ∃ r : Nat → Value, ∀ (j : Nat) (fl : Field), fs[j]? = some fl → w.cell? (a.add (i * fs.size + j)) = some (r j) ∧ ∃ (y : DataW H × List MemPlace) (m : Nat), DataW.trod enc P w base spare held m fl.type [r j] = some y := by
      intro i hil
      obtain ⟨cs', hc, ht'⟩ := hi i (by omega)
      rw [hC] at hc
      obtain ⟨ys, n', _, _, _, hyl, hf⟩ := DataW.trod_struct he ht'
      obtain ⟨_, hcl, hat⟩ := World.cells?_some hc
      refine ⟨fun j => cs'.getD j undef, fun j fl hj => ?_⟩
      obtain ⟨ho, hk⟩ := hone_of hone j fl hj
      have hjl : j < fs.size := (Array.getElem?_eq_some_iff.1 hj).1
      have h1 := hf j fl hj
      rw [ho, hk, Deep.take1_drop _ _ undef (by omega)] at h1
      have hcell := hat j hjl
      rw [add_add] at hcell
      refine ⟨?_, ys[j]'(by omega), n', ?_⟩
      · rw [hcell]; show _ = some (cs'.getD j undef); rw [List.getD_eq_getElem?_getD, List.getElem?_eq_getElem (by omega)]; rfl
      · rw [h1]; exact List.getElem?_eq_getElem (by omega)
    have hch : ∃ r : Nat → Nat → Value, ∀ i, i < len → ∀ (j : Nat) (fl : Field), fs[j]? = some fl → w.cell? (a.add (i * fs.size + j)) = some (r i j) ∧ ∃ (y : DataW H × List MemPlace) (m : Nat), DataW.trod enc P w base spare held m fl.type [r i j] = some y :=
      ⟨fun i => if hil : i < len then Classical.choose (hrow i hil) else fun _ => undef, fun i hil => by simp only [dif_pos hil]; exact Classical.choose_spec (hrow i hil)⟩
    obtain ⟨r, hr⟩ := hch
    refine ⟨some a, len, cap, r, rfl, hl, hm, .inr ⟨_, _, by rw [hxx], by simp⟩, ?_, fun i hil j fl hj => (hr i hil j fl hj).2⟩
    intro hn
    have h0 := (hr 0 hn 0 (fs[0]'hpos) (Array.getElem?_eq_getElem hpos)).1
    have hs : a.spot = none := by simpa [Addr.add] using World.cell?_spot h0
    obtain ⟨b, o, sp⟩ := a
    simp only at hs
    subst hs
    refine ⟨b, o, rfl, by simpa [addBlock] using World.block_lt_of_cell? w _ h0, fun i j hil hj => ?_⟩
    have := (hr i hil j (fs[j]'hj) (Array.getElem?_eq_getElem hj)).1
    rw [Addr.add_lit] at this
    rwa [Nat.add_assoc]

/-- A slice of elements of one cell each. -/
theorem open_ones {t e : TypeId} {fuel : Nat} {cs : List Value} {x : DataW H × List MemPlace} (ht : P.underlying t = some (.slice e)) (hC : P.cellsOf e = 1) (h : DataW.trod enc P w base spare held fuel t cs = some x) :
    ∃ (A : Option Addr) (n c : Nat) (f : Nat → Nat → Value), cs = [.slice A n c] ∧ n ≤ c ∧ c ≤ maxLen ∧ (n = 0 ∨ ∃ el sp, x.1 = .slice el sp ∧ el.length = n) ∧ Cells w w.heap.size A n 1 f ∧
      ∀ i, i < n → ∃ (y : DataW H × List MemPlace) (m : Nat), DataW.trod enc P w base spare held m e [f i 0] = some y := by
  rcases open_slice ht h with ⟨rfl, _⟩ | ⟨a, len, cap, m, k, D, Pl, rfl, _, hl, hm, hmm, hxx, hi⟩
  · exact ⟨none, 0, 0, fun _ _ => undef, rfl, Nat.le_refl _, Nat.zero_le _, .inl rfl, fun h => absurd h (by omega), fun i hi => absurd hi (by omega)⟩
  · have hlm : len ≤ m := by rw [hmm]; split <;> omega
    have hrow : ∀ i, i < len → ∃ v : Value, w.cell? (a.add i) = some v ∧ ∃ (y : DataW H × List MemPlace) (m : Nat), DataW.trod enc P w base spare held m e [v] = some y := by
      intro i hil
      obtain ⟨cs', hc, ht'⟩ := hi i (by omega)
      rw [hC] at hc
      obtain ⟨_, hcl, hat⟩ := World.cells?_some hc
      match cs', hcl with
      | [v], _ =>
        have := hat 0 (by omega)
        rw [add_add, Nat.mul_one, Nat.add_zero] at this
        exact ⟨v, this, _, _, ht'⟩
    have hch : ∃ r : Nat → Value, ∀ i, i < len → w.cell? (a.add i) = some (r i) ∧ ∃ (y : DataW H × List MemPlace) (m : Nat), DataW.trod enc P w base spare held m e [r i] = some y :=
      ⟨fun i => if hil : i < len then Classical.choose (hrow i hil) else undef, fun i hil => by simp only [dif_pos hil]; exact Classical.choose_spec (hrow i hil)⟩
    obtain ⟨r, hr⟩ := hch
    refine ⟨some a, len, cap, fun i _ => r i, rfl, hl, hm, .inr ⟨_, _, by rw [hxx], by simp⟩, ?_, fun i hil => (hr i hil).2⟩
    intro hn
    have h0 := (hr 0 hn).1
    have hs : a.spot = none := by simpa [Addr.add] using World.cell?_spot h0
    obtain ⟨b, o, sp⟩ := a
    simp only at hs
    subst hs
    refine ⟨b, o, rfl, by simpa [addBlock] using World.block_lt_of_cell? w _ h0, fun i j hil hj => ?_⟩
    have := (hr i hil).1
    obtain rfl : j = 0 := by omega
    rw [Addr.add_lit] at this
    simpa using this
end
end

theorem bd64 {n : Int} (h : (Lit.int .i64 n).wf = true) : -9223372036854775808 ≤ n ∧ n ≤ 9223372036854775807 := by
  simpa [Lit.wf, IntKind.min, IntKind.max, IntKind.signed, IntKind.bits] using h
theorem bdu64 {n : Int} (h : (Lit.int .u64 n).wf = true) : 0 ≤ n ∧ n ≤ 18446744073709551615 := by
  simpa [Lit.wf, IntKind.min, IntKind.max, IntKind.signed, IntKind.bits] using h
theorem bdu8 {n : Int} (h : (Lit.int .u8 n).wf = true) : 0 ≤ n ∧ n ≤ 255 := by
  simpa [Lit.wf, IntKind.min, IntKind.max, IntKind.signed, IntKind.bits] using h

#print axioms law_contract
#print axioms open_structs
#print axioms open_ones
end Go.Proofs.Ytahhecendjfenaa
end

section
/-
  Whole structs out of and into a part of a block, in one step.
-/
namespace Go.Proofs.Ytahhecendjfenaa
open Go.RowKit
set_option linter.unusedVariables false
set_option linter.unusedSimpArgs false
section
variable {P : Program}
def putAt (cur : Array Value) : Nat → List Value → Array Value
  | _, [] => cur
  | k, v :: vs => putAt (cur.setIfInBounds k v) (k + 1) vs
theorem putAt_list : ∀ (vs : List Value) (k : Nat) (cur : Array Value), k + vs.length ≤ cur.size → (putAt cur k vs).toList = cur.toList.take k ++ (vs ++ cur.toList.drop (k + vs.length))
  | [], k, cur, _ => by simp [putAt]
  | v :: vs, k, cur, h => by
    have hk : k < cur.size := by simp at h; omega
    rw [putAt, putAt_list vs (k + 1) _ (by simp at h ⊢; omega)]
    rw [Array.toList_setIfInBounds]
    have hl : k < cur.toList.length := by simpa using hk
    have h1 : (cur.toList.set k v).take (k + 1) = cur.toList.take k ++ [v] := by
      apply List.ext_getElem?
      intro i
      rcases Nat.lt_trichotomy i k with hi | hi | hi
      · rw [List.getElem?_take, if_pos (by omega), List.getElem?_set, if_neg (by omega), List.getElem?_append_left (by rw [List.length_take]; omega), List.getElem?_take, if_pos hi]
      · subst hi
        rw [List.getElem?_take, if_pos (by omega), List.getElem?_set, if_pos rfl, if_pos hl, List.getElem?_append_right (by rw [List.length_take]; omega)]
        rw [List.length_take, show i - min i cur.toList.length = 0 by omega]
        rfl
      · rw [List.getElem?_take, if_neg (by omega), List.getElem?_eq_none (by rw [List.length_append, List.length_take]; simp; omega)]
    have h2 : (cur.toList.set k v).drop (k + 1 + vs.length) = cur.toList.drop (k + (v :: vs).length) := by
      rw [List.drop_set_of_lt (by omega)]
      congr 1
      simp; omega
    rw [h1, h2]
    simp
theorem add_at (g o i : Nat) : (⟨g, o, none⟩ : Addr).add i = ⟨g, o + i, none⟩ := by unfold Addr.add; simp
theorem run_storeCells_at (g o : Nat) (t : TypeId) : ∀ (vs : List Value) (i : Nat) (cur : Array Value) (w : World), w.heap[g]? = some (.cells cur t (0, 0)) → o + i + vs.length ≤ cur.size → (∀ v ∈ vs, v.oneCell' = true) →
    (storeCells ⟨g, o, none⟩ vs i).run P w = .ok () (w.setRow g (putAt cur (o + i) vs))
  | [], i, cur, w, hg, hl, _ => by
    rw [putAt, setRow_self w g cur t (0, 0) hg]
    rfl
  | v :: rest, i, cur, w, hg, hl, h1 => by
    have hi : o + i < cur.size := by simp at hl; omega
    have hcell : w.cell? ⟨g, o + i, none⟩ = some cur[o + i] := by simp [World.cell?, hg, hi]
    have hfro : w.frozen? ⟨g, o + i, none⟩ = false := by simp [World.frozen?, hg]
    have hst : (store ((⟨g, o, none⟩ : Addr).add i) v).run P w = .ok () (w.setRow g (cur.setIfInBounds (o + i) v)) := by
      rw [add_at, run_store P w _ v _ (h1 v (by simp)), hcell]
      simp [hfro, setCell_eq_setRow w g (o + i) cur t (0, 0) v hg]
    have ih := run_storeCells_at g o t rest (i + 1) (cur.setIfInBounds (o + i) v) (w.setRow g (cur.setIfInBounds (o + i) v)) (setRow_heap w g cur _ t _ hg) (by simp at hl ⊢; omega) (fun x hx => h1 x (by simp [hx]))
    simp only [storeCells, Sem.run_bind, hst, Result.andThen_ok, ih, setRow_setRow, putAt, Nat.add_assoc]
theorem run_storeVar_at (w : World) (g o : Nat) (t ty : TypeId) (old cells : Array Value) (hg : w.heap[g]? = some (.cells old t (0, 0))) (hi : (P.info? ty).map (·.size) = some cells.size)
    (ho : o + cells.size ≤ old.size) (h1 : cells.toList.all (·.oneCell') = true) :
    (storeVar ty ⟨g, o, none⟩ (.agg cells)).run P w = .ok () (w.setRow g (putAt old o cells.toList)) := by
  have := run_storeCells_at (P := P) g o t cells.toList 0 old w hg (by simp; omega) (fun v hv => (List.all_eq_true.1 h1) v hv)
  cases hq : P.info? ty with
  | none => simp [hq] at hi
  | some i =>
    have hs : cells.size = i.size := by simp [hq] at hi; omega
    simp [storeVar, sizeOf, typeInfo, hq, Value.cells, hs, this]
theorem wpList_store_at {ops : Array Oper} {rest : List Oper} {o : Oper} {a : Act} {w : World} {Q : Exit → Act → World → Prop} (hw : Region.wanted o (yielded ops a.tmps) = true) (ty : TypeId) (x y : Operand) (ho : o.op = .store ty x y)
    (g off : Nat) (cells : Array Value) (hx : a.eval x = .pointer (some ⟨g, off, none⟩)) (hy : a.eval y = .agg cells)
    (t : TypeId) (old new : Array Value) (hg : w.heap[g]? = some (.cells old t (0, 0))) (hi : (P.info? ty).map (·.size) = some cells.size)
    (n k : Nat) (hn : old.size = n) (hk : cells.size = k) (hnk : off + k ≤ n) (h1 : cells.toList.all (·.oneCell') = true) (hnew : old.toList.take off ++ (cells.toList ++ old.toList.drop (off + cells.size)) = new.toList)
    (h : wpList P ops Q rest (a.put o.dst undef) (w.setRow g new)) : wpList P ops Q (o :: rest) a w :=
  wpList_step fun K hK => by
    have hold : off + cells.size ≤ old.size := by rw [hn, hk]; exact hnk
    have hnew' : putAt old off cells.toList = new := by
      have := putAt_list cells.toList off old (by simpa using hold)
      rw [Array.length_toList, hnew] at this
      exact Array.toList_inj.1 this
    rw [if_pos hw]
    unfold Oper.wp execOp
    simp only [ho, hx, hy, Instr.storeAt, Instr.sureAddr, Sem.run_bind, Sem.run_pure, Result.andThen_ok, run_storeVar_at w g off t ty old cells hg hi hold h1, hnew']
    exact hK _ _ h
theorem run_loadVar_at (w : World) (g o : Nat) (t ty : TypeId) (cs sub : Array Value) (fr : Nat × Nat) (d : TypeDesc) (hg : w.heap[g]? = some (.cells cs t fr))
    (hu : P.underlying ty = some d) (hd : (match d with | .struct _ | .array _ _ => true | _ => false) = true) (hi : (P.info? ty).map (·.size) = some sub.size) (hsub : (cs.toList.drop o).take sub.size = sub.toList) :
    (loadVar ty ⟨g, o, none⟩).run P w = .ok (.agg sub) w := by
  have hl : (loadCells ⟨g, o, none⟩ sub.toList.length).run P w = .ok sub.toList.toArray w :=
    run_loadCells_list (P := P) w ⟨g, o, none⟩ sub.toList (fun j v hv => by
      rw [add_at, cell_of_row w g (o + j) cs t fr hg]
      have hj : j < sub.size := by simpa using (List.getElem?_eq_some_iff.1 hv).1
      rw [← hsub, List.getElem?_take, if_pos hj, List.getElem?_drop] at hv
      simpa using hv)
  cases hq : P.info? ty with
  | none => simp [hq] at hi
  | some i =>
    have hs : i.size = sub.size := by simpa [hq] using hi
    have hagg : (isAgg ty).run P w = .ok true w := by
      unfold isAgg
      rw [Sem.run_bind, run_underlying hu w]
      cases d <;> simp_all
    simp only [Array.length_toList, Array.toArray_toList] at hl
    simp [loadVar, Sem.run_bind, hagg, sizeOf, typeInfo, hq, hs, hl]
theorem wpList_load_at {ops : Array Oper} {rest : List Oper} {o : Oper} {a : Act} {w : World} {Q : Exit → Act → World → Prop} (hw : Region.wanted o (yielded ops a.tmps) = true) (ty : TypeId) (x : Operand) (ho : o.op = .load ty x)
    (g off : Nat) (hx : a.eval x = .pointer (some ⟨g, off, none⟩)) (t : TypeId) (cs sub : Array Value) (fr : Nat × Nat) (d : TypeDesc) (hg : w.heap[g]? = some (.cells cs t fr))
    (hu : P.underlying ty = some d) (hd : (match d with | .struct _ | .array _ _ => true | _ => false) = true) (hi : (P.info? ty).map (·.size) = some sub.size) (hsub : (cs.toList.drop off).take sub.size = sub.toList)
    (h : wpList P ops Q rest (a.put o.dst (.agg sub)) w) : wpList P ops Q (o :: rest) a w :=
  wpList_step fun K hK => by
    rw [if_pos hw]
    unfold Oper.wp execOp
    simp only [ho, hx, Instr.loadAt, Instr.sureAddr, Sem.run_bind, Sem.run_pure, Result.andThen_ok, run_loadVar_at w g off t ty cs sub fr d hg hu hd hi hsub]
    exact hK _ _ h
end
theorem Bl.setRow {w : World} {g : Nat} {t : TypeId} {cs : Array Value} (h : Bl w g t cs) (cs' : Array Value) : Bl (w.setRow g cs') g t cs' := setRow_heap w g cs cs' t (0, 0) h
theorem Bl.farRow {w : World} {g k : Nat} {t : TypeId} {cs : Array Value} (h : Bl w g t cs) (hk : g ≠ k) (cs' : Array Value) : Bl (w.setRow k cs') g t cs := (setRow_other w k g cs' hk).trans h
theorem Fr.setRow {S : Nat → Prop} {w w' : World} {g : Nat} (h : Fr S w w') (hp : S g ∨ w.heap.size ≤ g) (cs : Array Value) : Fr S w (w'.setRow g cs) :=
  ⟨h.os, h.tape, h.output, by rw [setRow_size]; exact h.size, fun k hk hs => (setRow_other w' g k cs (fun e => by subst e; rcases hp with hp | hp; exact hs hp; omega)).trans (h.block k hk hs)⟩
theorem Fr.row {w : World} {g : Nat} (cs : Array Value) : Fr (fun x => x = g) w (w.setRow g cs) := Fr.setRow (S := fun x => x = g) (Fr.refl _ w) (.inl rfl) cs
theorem setRow_alloc2 (w : World) (o : Obj) (c c' : Array Value) (t : TypeId) : ((w.alloc o).alloc (.cells c t)).setRow (w.heap.size + 1) c' = (w.alloc o).alloc (.cells c' t) := by
  have := World.setRow_alloc_new (w.alloc o) c c' t
  rwa [show (w.alloc o).heap.size = w.heap.size + 1 by simp] at this
end Go.Proofs.Ytahhecendjfenaa
end
