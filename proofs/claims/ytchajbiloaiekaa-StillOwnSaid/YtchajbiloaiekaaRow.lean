/-
  Whole structs out of and into a part of a block, in one step.
-/
import Derived.Laws.Rows
import Derived.Laws.Tables
import Derived.Deep.WholeRow
import Derived.Laws.CopyRow
import Derived.Test.YtchajbiloaiekaaMem
namespace Go.Proofs.Ytchajbiloaiekaa
open Go.RowKit
set_option linter.unusedVariables false
set_option linter.unusedSimpArgs false
section
variable {P : Program}
def putAt (cur : Array Value) : Nat → List Value → Array Value
  | _, [] => cur
  | k, v :: vs => putAt (cur.setIfInBounds k v) (k + 1) vs
theorem putAt_list : ∀ (vs : List Value) (k : Nat) (cur : Array Value), k + vs.length ≤ cur.size → (putAt cur k vs).toList = cur.toList.take k ++ (vs ++ cur.toList.drop (k + vs.length))
  | [], k, cur, _ => by simp [putAt]
  | v :: vs, k, cur, h => by
    have hk : k < cur.size := by simp at h; omega
    rw [putAt, putAt_list vs (k + 1) _ (by simp at h ⊢; omega)]
    rw [Array.toList_setIfInBounds]
    have hl : k < cur.toList.length := by simpa using hk
    have h1 : (cur.toList.set k v).take (k + 1) = cur.toList.take k ++ [v] := by
      apply List.ext_getElem?
      intro i
      rcases Nat.lt_trichotomy i k with hi | hi | hi
      · rw [List.getElem?_take, if_pos (by omega), List.getElem?_set, if_neg (by omega), List.getElem?_append_left (by rw [List.length_take]; omega), List.getElem?_take, if_pos hi]
      · subst hi
        rw [List.getElem?_take, if_pos (by omega), List.getElem?_set, if_pos rfl, if_pos hl, List.getElem?_append_right (by rw [List.length_take]; omega)]
        rw [List.length_take, show i - min i cur.toList.length = 0 by omega]
        rfl
      · rw [List.getElem?_take, if_neg (by omega), List.getElem?_eq_none (by rw [List.length_append, List.length_take]; simp; omega)]
    have h2 : (cur.toList.set k v).drop (k + 1 + vs.length) = cur.toList.drop (k + (v :: vs).length) := by
      rw [List.drop_set_of_lt (by omega)]
      congr 1
      simp; omega
    rw [h1, h2]
    simp
theorem add_at (g o i : Nat) : (⟨g, o, none⟩ : Addr).add i = ⟨g, o + i, none⟩ := by unfold Addr.add; simp
theorem run_storeCells_at (g o : Nat) (t : TypeId) : ∀ (vs : List Value) (i : Nat) (cur : Array Value) (w : World), w.heap[g]? = some (.cells cur t (0, 0)) → o + i + vs.length ≤ cur.size → (∀ v ∈ vs, v.oneCell' = true) →
    (storeCells ⟨g, o, none⟩ vs i).run P w = .ok () (w.setRow g (putAt cur (o + i) vs))
  | [], i, cur, w, hg, hl, _ => by
    rw [putAt, setRow_self w g cur t (0, 0) hg]
    rfl
  | v :: rest, i, cur, w, hg, hl, h1 => by
    have hi : o + i < cur.size := by simp at hl; omega
    have hcell : w.cell? ⟨g, o + i, none⟩ = some cur[o + i] := by simp [World.cell?, hg, hi]
    have hfro : w.frozen? ⟨g, o + i, none⟩ = false := by simp [World.frozen?, hg]
    have hst : (store ((⟨g, o, none⟩ : Addr).add i) v).run P w = .ok () (w.setRow g (cur.setIfInBounds (o + i) v)) := by
      rw [add_at, run_store P w _ v _ (h1 v (by simp)), hcell]
      simp [hfro, setCell_eq_setRow w g (o + i) cur t (0, 0) v hg]
    have ih := run_storeCells_at g o t rest (i + 1) (cur.setIfInBounds (o + i) v) (w.setRow g (cur.setIfInBounds (o + i) v)) (setRow_heap w g cur _ t _ hg) (by simp at hl ⊢; omega) (fun x hx => h1 x (by simp [hx]))
    simp only [storeCells, Sem.run_bind, hst, Result.andThen_ok, ih, setRow_setRow, putAt, Nat.add_assoc]
theorem run_storeVar_at (w : World) (g o : Nat) (t ty : TypeId) (old cells : Array Value) (hg : w.heap[g]? = some (.cells old t (0, 0))) (hi : (P.info? ty).map (·.size) = some cells.size)
    (ho : o + cells.size ≤ old.size) (h1 : cells.toList.all (·.oneCell') = true) :
    (storeVar ty ⟨g, o, none⟩ (.agg cells)).run P w = .ok () (w.setRow g (putAt old o cells.toList)) := by
  have := run_storeCells_at (P := P) g o t cells.toList 0 old w hg (by simp; omega) (fun v hv => (List.all_eq_true.1 h1) v hv)
  cases hq : P.info? ty with
  | none => simp [hq] at hi
  | some i =>
    have hs : cells.size = i.size := by simp [hq] at hi; omega
    simp [storeVar, sizeOf, typeInfo, hq, Value.cells, hs, this]
theorem wpList_store_at {ops : Array Oper} {rest : List Oper} {o : Oper} {a : Act} {w : World} {Q : Exit → Act → World → Prop} (hw : Region.wanted o (yielded ops a.tmps) = true) (ty : TypeId) (x y : Operand) (ho : o.op = .store ty x y)
    (g off : Nat) (cells : Array Value) (hx : a.eval x = .pointer (some ⟨g, off, none⟩)) (hy : a.eval y = .agg cells)
    (t : TypeId) (old new : Array Value) (hg : w.heap[g]? = some (.cells old t (0, 0))) (hi : (P.info? ty).map (·.size) = some cells.size)
    (n k : Nat) (hn : old.size = n) (hk : cells.size = k) (hnk : off + k ≤ n) (h1 : cells.toList.all (·.oneCell') = true) (hnew : old.toList.take off ++ (cells.toList ++ old.toList.drop (off + cells.size)) = new.toList)
    (h : wpList P ops Q rest (a.put o.dst undef) (w.setRow g new)) : wpList P ops Q (o :: rest) a w :=
  wpList_step fun K hK => by
    have hold : off + cells.size ≤ old.size := by rw [hn, hk]; exact hnk
    have hnew' : putAt old off cells.toList = new := by
      have := putAt_list cells.toList off old (by simpa using hold)
      rw [Array.length_toList, hnew] at this
      exact Array.toList_inj.1 this
    rw [if_pos hw]
    unfold Oper.wp execOp
    simp only [ho, hx, hy, Instr.storeAt, Instr.sureAddr, Sem.run_bind, Sem.run_pure, Result.andThen_ok, run_storeVar_at w g off t ty old cells hg hi hold h1, hnew']
    exact hK _ _ h
theorem run_loadVar_at (w : World) (g o : Nat) (t ty : TypeId) (cs sub : Array Value) (fr : Nat × Nat) (d : TypeDesc) (hg : w.heap[g]? = some (.cells cs t fr))
    (hu : P.underlying ty = some d) (hd : (match d with | .struct _ | .array _ _ => true | _ => false) = true) (hi : (P.info? ty).map (·.size) = some sub.size) (hsub : (cs.toList.drop o).take sub.size = sub.toList) :
    (loadVar ty ⟨g, o, none⟩).run P w = .ok (.agg sub) w := by
  have hl : (loadCells ⟨g, o, none⟩ sub.toList.length).run P w = .ok sub.toList.toArray w :=
    run_loadCells_list (P := P) w ⟨g, o, none⟩ sub.toList (fun j v hv => by
      rw [add_at, cell_of_row w g (o + j) cs t fr hg]
      have hj : j < sub.size := by simpa using (List.getElem?_eq_some_iff.1 hv).1
      rw [← hsub, List.getElem?_take, if_pos hj, List.getElem?_drop] at hv
      simpa using hv)
  cases hq : P.info? ty with
  | none => simp [hq] at hi
  | some i =>
    have hs : i.size = sub.size := by simpa [hq] using hi
    have hagg : (isAgg ty).run P w = .ok true w := by
      unfold isAgg
      rw [Sem.run_bind, run_underlying hu w]
      cases d <;> simp_all
    simp only [Array.length_toList, Array.toArray_toList] at hl
    simp [loadVar, Sem.run_bind, hagg, sizeOf, typeInfo, hq, hs, hl]
theorem wpList_load_at {ops : Array Oper} {rest : List Oper} {o : Oper} {a : Act} {w : World} {Q : Exit → Act → World → Prop} (hw : Region.wanted o (yielded ops a.tmps) = true) (ty : TypeId) (x : Operand) (ho : o.op = .load ty x)
    (g off : Nat) (hx : a.eval x = .pointer (some ⟨g, off, none⟩)) (t : TypeId) (cs sub : Array Value) (fr : Nat × Nat) (d : TypeDesc) (hg : w.heap[g]? = some (.cells cs t fr))
    (hu : P.underlying ty = some d) (hd : (match d with | .struct _ | .array _ _ => true | _ => false) = true) (hi : (P.info? ty).map (·.size) = some sub.size) (hsub : (cs.toList.drop off).take sub.size = sub.toList)
    (h : wpList P ops Q rest (a.put o.dst (.agg sub)) w) : wpList P ops Q (o :: rest) a w :=
  wpList_step fun K hK => by
    rw [if_pos hw]
    unfold Oper.wp execOp
    simp only [ho, hx, Instr.loadAt, Instr.sureAddr, Sem.run_bind, Sem.run_pure, Result.andThen_ok, run_loadVar_at w g off t ty cs sub fr d hg hu hd hi hsub]
    exact hK _ _ h
end
theorem Bl.setRow {w : World} {g : Nat} {t : TypeId} {cs : Array Value} (h : Bl w g t cs) (cs' : Array Value) : Bl (w.setRow g cs') g t cs' := setRow_heap w g cs cs' t (0, 0) h
theorem Bl.farRow {w : World} {g k : Nat} {t : TypeId} {cs : Array Value} (h : Bl w g t cs) (hk : g ≠ k) (cs' : Array Value) : Bl (w.setRow k cs') g t cs := (setRow_other w k g cs' hk).trans h
theorem Fr.setRow {S : Nat → Prop} {w w' : World} {g : Nat} (h : Fr S w w') (hp : S g ∨ w.heap.size ≤ g) (cs : Array Value) : Fr S w (w'.setRow g cs) :=
  ⟨h.os, h.tape, h.output, by rw [setRow_size]; exact h.size, fun k hk hs => (setRow_other w' g k cs (fun e => by subst e; rcases hp with hp | hp; exact hs hp; omega)).trans (h.block k hk hs)⟩
theorem Fr.row {w : World} {g : Nat} (cs : Array Value) : Fr (fun x => x = g) w (w.setRow g cs) := Fr.setRow (S := fun x => x = g) (Fr.refl _ w) (.inl rfl) cs
theorem setRow_alloc2 (w : World) (o : Obj) (c c' : Array Value) (t : TypeId) : ((w.alloc o).alloc (.cells c t)).setRow (w.heap.size + 1) c' = (w.alloc o).alloc (.cells c' t) := by
  have := World.setRow_alloc_new (w.alloc o) c c' t
  rwa [show (w.alloc o).heap.size = w.heap.size + 1 by simp] at this
end Go.Proofs.Ytchajbiloaiekaa
