/-
  disk.Disk: values of 64 and of 65 cells; act, Fuse.
-/
import Derived.Test.YtchajbiloaiekaaDk1
import Derived.Great.BuildSlice
namespace Go.Proofs.Ytchajbiloaiekaa
open Go.RowKit
set_option linter.unusedVariables false

/-! Cells that are laid one behind another. -/
theorem fold_get (vs : List Value) : ∀ (k off : Nat) (cells : Array Value) (i : Nat), (((vs.zipIdx k).foldl (fun cs (x : Value × Nat) => cs.setIfInBounds (off + x.2) x.1) cells)[i]?) =
    if off + k ≤ i ∧ i < off + k + vs.length ∧ i < cells.size then vs[i - (off + k)]? else cells[i]? := by
  induction vs with
  | nil => intro k off cells i; simp; omega
  | cons v vs ih =>
    intro k off cells i
    rw [List.zipIdx_cons, List.foldl_cons, ih (k + 1) off]
    simp only [Array.size_setIfInBounds, List.length_cons, Array.getElem?_setIfInBounds]
    by_cases h0 : i = off + k
    · subst h0
      by_cases hs : off + k < cells.size
      · rw [if_neg (by omega), if_pos rfl, if_pos hs, if_pos (by omega)]; simp
      · rw [if_neg (by omega), if_pos rfl, if_neg hs, if_neg (by omega), Array.getElem?_eq_none (by omega)]
    · by_cases h1 : off + k ≤ i ∧ i < off + k + (vs.length + 1) ∧ i < cells.size
      · rw [if_pos (by omega), if_pos h1, show i - (off + k) = (i - (off + (k + 1))) + 1 by omega, List.getElem?_cons_succ]
      · rw [if_neg (by omega), if_neg (fun e => h0 e.symm), if_neg h1]
theorem fold_size (vs : List Value) : ∀ (k off : Nat) (cells : Array Value), ((vs.zipIdx k).foldl (fun cs (x : Value × Nat) => cs.setIfInBounds (off + x.2) x.1) cells).size = cells.size := by
  induction vs with
  | nil => intro k off cells; rfl
  | cons v vs ih => intro k off cells; rw [List.zipIdx_cons, List.foldl_cons, ih, Array.size_setIfInBounds]
theorem fold_arr (cs : List Value) (off : Nat) (cells : Array Value) :
    cs.toArray.zipIdx.foldl (fun cs (x : Value × Nat) => cs.setIfInBounds (off + x.2) x.1) cells = (cs.zipIdx 0).foldl (fun cs (x : Value × Nat) => cs.setIfInBounds (off + x.2) x.1) cells := by
  rw [← Array.foldl_toList]; simp
theorem fill_one (place : Nat → Option (Nat × Nat)) (cells : Array Value) (cs : List Value) (hp : place 0 = some (0, cs.length)) (hc : cells.size = cs.length) :
    Instr.fill place cells [(0, .agg cs.toArray)] = some cs.toArray := by
  have hz : (Value.agg cs.toArray).cells = cs.toArray := rfl
  simp only [Instr.fill, hp, hz]
  rw [if_neg (by simp [hc])]
  congr 1
  have := fold_arr cs 0 cells
  show cs.toArray.zipIdx.foldl (fun x y => x.setIfInBounds (0 + y.2) y.1) cells = cs.toArray
  rw [this]
  apply Array.ext_getElem?
  intro i
  rw [fold_get]
  by_cases hi : i < cs.length
  · rw [if_pos (by omega)]; simp
  · rw [if_neg (by omega), Array.getElem?_eq_none (by omega), Array.getElem?_eq_none (by simp; omega)]
theorem fill_two (place : Nat → Option (Nat × Nat)) (cells : Array Value) (v : Value) (cs : List Value) (hv : v.cells = #[v]) (hp : place 0 = some (0, 1)) (hq : place 1 = some (1, cs.length)) (hc : cells.size = cs.length + 1) :
    Instr.fill place cells [(0, v), (1, .agg cs.toArray)] = some (v :: cs).toArray := by
  have hz : (Value.agg cs.toArray).cells = cs.toArray := rfl
  simp only [Instr.fill, hp, hq, hz, hv]
  rw [if_neg (by simp [hc])]
  rw [if_neg (by simp [hc]; omega)]
  congr 1
  have := fold_arr cs 1 (#[v].zipIdx.foldl (fun x y => x.setIfInBounds (0 + y.2) y.1) cells)
  show cs.toArray.zipIdx.foldl (fun x y => x.setIfInBounds (1 + y.2) y.1) _ = (v :: cs).toArray
  rw [this]
  apply Array.ext_getElem?
  intro i
  have e0 : #[v].zipIdx.foldl (fun x y => x.setIfInBounds (0 + y.2) y.1) cells = cells.setIfInBounds 0 v := by simp
  rw [fold_get]
  rw [e0]
  simp only [Array.size_setIfInBounds, hc, Array.getElem?_setIfInBounds]
  by_cases hi : i = 0
  · subst hi
    rw [if_neg (by omega)]; simp
  · by_cases h1 : i < cs.length + 1
    · rw [if_pos (by omega)]
      obtain ⟨j, rfl⟩ : ∃ j, i = j + 1 := ⟨i - 1, by omega⟩
      simp
    · rw [if_neg (by omega), if_neg (by omega), Array.getElem?_eq_none (by omega), Array.getElem?_eq_none (by simp; omega)]
theorem secInfo : (Try.prog.info? tSec).map (fun i => (i.size, i.bytes, i.zero.map (·.cells.size))) = some (64, 64, some 64) := by kernel_rfl
theorem wrInfo : (Try.prog.info? tWr).map (fun i => (i.size, i.bytes, i.zero.map (·.cells.size))) = some (65, 72, some 65) := by kernel_rfl
theorem parts3 {P : Program} {t : TypeId} {s b z : Nat} (h : (P.info? t).map (fun i => (i.size, i.bytes, i.zero.map (·.cells.size))) = some (s, b, some z)) :
    ∃ (i : TypeInfo) (v : Value), P.info? t = some i ∧ i.zero = some v ∧ i.size = s ∧ i.bytes = b ∧ v.cells.size = z := by
  cases hi : P.info? t with
  | none => rw [hi] at h; cases h
  | some i =>
    rw [hi] at h
    simp at h
    obtain ⟨h1, h2, v, h3, h4⟩ := h
    exact ⟨i, v, rfl, h3, h1, h2, h4⟩
theorem sec_size (cs : List Value) (h : cs.length = 64) : (Try.prog.info? tSec).map (·.size) = some cs.length := by
  obtain ⟨i, v, hi, -, hs, -⟩ := parts3 secInfo
  rw [hi, h]; simp [hs]
theorem wr_size (cs : List Value) (h : cs.length = 65) : (Try.prog.info? tWr).map (·.size) = some cs.length := by
  obtain ⟨i, v, hi, -, hs, -⟩ := parts3 wrInfo
  rw [hi, h]; simp [hs]
theorem wrPlaces : (match Try.prog.underlying tWr with | some (.struct fields) => (fields.toList.mapM (fun f => (Try.prog.info? f.type).map fun i => (f.offset, i.size))) | _ => none) = some [(0, 1), (1, 64)] := by kernel_rfl
theorem built_wr (v : Value) (hv : v.cells = #[v]) (cs : List Value) (h : cs.length = 64) : Try.prog.built tWr [(0, v), (1, .agg cs.toArray)] = some (v :: cs).toArray := by
  obtain ⟨i, z, hi, hz, hs, -, hzs⟩ := parts3 wrInfo
  have hp := wrPlaces
  unfold Program.built
  rw [hi]
  cases hu : Try.prog.underlying tWr with
  | none => rw [hu] at hp; cases hp
  | some d =>
    cases d with
    | struct fields =>
      rw [hu] at hp
      simp only [hz]
      simp only at hp
      rw [hp]
      exact fill_two _ _ v cs hv rfl (by rw [h]; rfl) (by rw [hzs, h])
    | _ => rw [hu] at hp; cases hp
/-- A write is built. -/
theorem run_built_wr (w : World) (k : Nat) (cs : List Value) (h : cs.length = 64) :
    (Instr.build tWr #[(0, .int .i64 (k : Int)), (1, .agg cs.toArray)]).run Try.prog w = .ok (.agg (.int .i64 (k : Int) :: cs).toArray) w := run_build w _ _ _ (built_wr _ rfl cs h)
/-- .. and laid into a row of one. -/
theorem run_one_wr (w : World) (cs : List Value) (h : cs.length = 65) :
    (Instr.buildSlice 51 1 #[(0, .agg cs.toArray)]).run Try.prog w = .ok (.slice (some ⟨w.heap.size, 0, none⟩) 1 1) (w.alloc (.cells cs.toArray tWr)) := by
  obtain ⟨i, z, hi, hz, hs, -, hzs⟩ := parts3 wrInfo
  refine run_buildSlice w _ tWr 1 _ cs.toArray i z Try.underlying51 hi hz (by rw [hs]; decide) (by rw [hs]; decide) ?_
  exact fill_one _ _ cs (by simp [hs, h]) (by simp [hs, h])
/-- A sector is read. -/
theorem run_load_sec0 (w : World) (b o : Nat) (cs : List Value) (h : cs.length = 64) (hc : w.rangeAt b o cs) :
    (Instr.loadAt tSec (.pointer (some ⟨b, o, none⟩))).run Try.prog w = .ok (.agg cs.toArray) w :=
  run_loadAt_mid w b o _ cs _ hc Try.underlying67 rfl (sec_size cs h)
theorem run_load_wr0 (w : World) (b o : Nat) (cs : List Value) (h : cs.length = 65) (hc : w.rangeAt b o cs) :
    (Instr.loadAt tWr (.pointer (some ⟨b, o, none⟩))).run Try.prog w = .ok (.agg cs.toArray) w :=
  run_loadAt_mid w b o _ cs _ hc Try.underlying70 rfl (wr_size cs h)

/-! What the walk's own simp takes before it opens an operation on many cells. -/
/-- n cells are there. -/
def HasRow (w : World) (b o n : Nat) : Prop := ∀ j, j < n → (w.cell? ⟨b, o + j, none⟩).isSome = true
/-- .. and these they are. -/
def rowAt (w : World) (b o n : Nat) : List Value := (List.range n).map fun j => (w.cell? ⟨b, o + j, none⟩).getD undef
/-- They may be written. -/
def MayRow (w : World) (b o n : Nat) : Prop := w.there b o n
theorem HasRow.range {w : World} {b o n : Nat} (h : HasRow w b o n) : w.rangeAt b o (rowAt w b o n) := fun j v hv => by
  unfold rowAt at hv
  rw [List.getElem?_map] at hv
  by_cases hj : j < n
  · rw [List.getElem?_range hj] at hv
    obtain ⟨u, hu⟩ := Option.isSome_iff_exists.1 (h j hj)
    simp [hu] at hv
    rw [hu, hv]
  · rw [List.getElem?_eq_none (by simpa using hj)] at hv; simp at hv
theorem rowAt_len (w : World) (b o n : Nat) : (rowAt w b o n).length = n := by simp [rowAt]
theorem HasRow.of {w : World} {b o n : Nat} {cs : List Value} (h : w.rangeAt b o cs) (hl : cs.length = n) : HasRow w b o n := fun j hj => h.isSome j (by omega)
theorem rowAt_of {w : World} {b o n : Nat} {cs : List Value} (h : w.rangeAt b o cs) (hl : cs.length = n) : rowAt w b o n = cs := by
  apply List.ext_getElem?
  intro j
  unfold rowAt
  rw [List.getElem?_map]
  by_cases hj : j < n
  · rw [List.getElem?_range hj, List.getElem?_eq_getElem (by omega)]
    have := h j _ (List.getElem?_eq_getElem (by omega))
    simp [this]
  · rw [List.getElem?_eq_none (by simpa using hj), List.getElem?_eq_none (by omega)]; rfl
theorem sem_load_sec {w : World} {b o : Nat} (h : HasRow w b o 64) : (Instr.loadAt 67 (.pointer (some ⟨b, o, none⟩))).run Try.prog w = .ok (.agg (rowAt w b o 64).toArray) w :=
  run_load_sec0 w b o _ (rowAt_len _ _ _ _) h.range
theorem sem_load_wr {w : World} {b o : Nat} (h : HasRow w b o 65) : (Instr.loadAt 70 (.pointer (some ⟨b, o, none⟩))).run Try.prog w = .ok (.agg (rowAt w b o 65).toArray) w :=
  run_load_wr0 w b o _ (rowAt_len _ _ _ _) h.range
theorem sem_loadVar_sec {w : World} {b o : Nat} (h : HasRow w b o 64) : (loadVar 67 ⟨b, o, none⟩).run Try.prog w = .ok (.agg (rowAt w b o 64).toArray) w :=
  run_loadVar_mid w b o _ _ _ h.range Try.underlying67 rfl (sec_size _ (rowAt_len _ _ _ _))
theorem sem_loadVar_wr {w : World} {b o : Nat} (h : HasRow w b o 65) : (loadVar 70 ⟨b, o, none⟩).run Try.prog w = .ok (.agg (rowAt w b o 65).toArray) w :=
  run_loadVar_mid w b o _ _ _ h.range Try.underlying70 rfl (wr_size _ (rowAt_len _ _ _ _))
theorem sem_storeVar_sec {w : World} {b o : Nat} {cs : List Value} (h : MayRow w b o 64) (hl : cs.length = 64) (h1 : ∀ v ∈ cs, v.oneCell' = true) :
    (storeVar 67 ⟨b, o, none⟩ (.agg cs.toArray)).run Try.prog w = .ok () (w.setCells b o cs) := by
  have := run_storeVar_mid (P := Try.prog) w b o 67 cs.toArray (by have h2 : w.there b o 64 := h; simpa [hl] using h2) (by have := sec_size cs hl; simpa using this) (all_oneCell_toArray h1)
  simpa using this
theorem sem_storeVar_wr {w : World} {b o : Nat} {cs : List Value} (h : MayRow w b o 65) (hl : cs.length = 65) (h1 : ∀ v ∈ cs, v.oneCell' = true) :
    (storeVar 70 ⟨b, o, none⟩ (.agg cs.toArray)).run Try.prog w = .ok () (w.setCells b o cs) := by
  have := run_storeVar_mid (P := Try.prog) w b o 70 cs.toArray (by have h2 : w.there b o 65 := h; simpa [hl] using h2) (by have := wr_size cs hl; simpa using this) (all_oneCell_toArray h1)
  simpa using this
/-- As the walk's own simp opens a build: its zero value, and what is laid into it. -/
theorem wr_zero : ∃ z : Array Value, (∀ w, (zeroValue 70).run Try.prog w = .ok (.agg z) w) ∧ z.size = 65 := by
  obtain ⟨i, v, hi, hz, hs, -, hzs⟩ := parts3 wrInfo
  cases v with
  | agg z => exact ⟨z, fun w => by simp [zeroValue, typeInfo, hi, hz], hzs⟩
  | _ => simp [Value.cells] at hzs
theorem fold_wr (z : Array Value) (hz : z.size = 65) (v : Value) (cs : List Value) (h : cs.length = 64) :
    List.foldl (fun (cs : Array Value) (x : Value × Nat) => cs.setIfInBounds (1 + x.snd) x.fst) (z.setIfInBounds 0 v) cs.zipIdx = (v :: cs).toArray := by
  apply Array.ext_getElem?
  intro i
  rw [fold_get]
  simp only [Array.size_setIfInBounds, hz, Array.getElem?_setIfInBounds]
  by_cases hi : i = 0
  · subst hi
    rw [if_neg (by omega)]; simp
  · by_cases h1 : i < cs.length + 1
    · rw [if_pos (by omega)]
      obtain ⟨j, rfl⟩ : ∃ j, i = j + 1 := ⟨i - 1, by omega⟩
      simp
    · rw [if_neg (by omega), if_neg (by omega), Array.getElem?_eq_none (by omega), Array.getElem?_eq_none (by simp; omega)]
theorem fold_row (a : Array Value) (ha : a.size = 65) (v : Value) (h0 : a[0]? = some v) (cs : List Value) (h : cs.length = 64) :
    List.foldl (fun (cs : Array Value) (x : Value × Nat) => cs.setIfInBounds x.snd x.fst) a (cs.zipIdx 1) = (v :: cs).toArray := by
  have e : (fun (cs : Array Value) (x : Value × Nat) => cs.setIfInBounds x.snd x.fst) = fun cs x => cs.setIfInBounds (0 + x.snd) x.fst := by funext cs x; rw [Nat.zero_add]
  rw [e]
  apply Array.ext_getElem?
  intro i
  rw [fold_get]
  by_cases hi : i = 0
  · subst hi
    rw [if_neg (by omega), h0]; simp
  · by_cases h1 : i < cs.length + 1
    · rw [if_pos (by omega)]
      obtain ⟨j, rfl⟩ : ∃ j, i = j + 1 := ⟨i - 1, by omega⟩
      simp
    · rw [if_neg (by omega), Array.getElem?_eq_none (by omega), Array.getElem?_eq_none (by simp; omega)]
theorem sem_build_wr {w : World} {k : Nat} {cs : List Value} (h : cs.length = 64) : (Instr.build 70 #[(0, .int .i64 (k : Int)), (1, .agg cs.toArray)]).run Try.prog w = .ok (.agg (.int .i64 (k : Int) :: cs).toArray) w := run_built_wr w k cs h
theorem sem_one_wr {w : World} {v : Value} {cs : List Value} (h : cs.length = 64) : (Instr.buildSlice 51 1 #[(0, .agg (v :: cs).toArray)]).run Try.prog w = .ok (.slice (some ⟨w.heap.size, 0, none⟩) 1 1) (w.alloc (.cells (v :: cs).toArray 70)) :=
  run_one_wr w (v :: cs) (by rw [List.length_cons, h])
theorem sem_store_sec {w : World} {b o : Nat} {cs : List Value} (h : MayRow w b o 64) (hl : cs.length = 64) (h1 : ∀ v ∈ cs, v.oneCell' = true) :
    (Instr.storeAt 67 (.pointer (some ⟨b, o, none⟩)) (.agg cs.toArray)).run Try.prog w = .ok () (w.setCells b o cs) := by
  have := run_storeAt_mid (P := Try.prog) w b o 67 cs.toArray (by have h2 : w.there b o 64 := h; simpa [hl] using h2) (by have := sec_size cs hl; simpa using this) (all_oneCell_toArray h1)
  simpa using this
theorem sem_store_wr {w : World} {b o : Nat} {cs : List Value} (h : MayRow w b o 65) (hl : cs.length = 65) (h1 : ∀ v ∈ cs, v.oneCell' = true) :
    (Instr.storeAt 70 (.pointer (some ⟨b, o, none⟩)) (.agg cs.toArray)).run Try.prog w = .ok () (w.setCells b o cs) := by
  have := run_storeAt_mid (P := Try.prog) w b o 70 cs.toArray (by have h2 : w.there b o 65 := h; simpa [hl] using h2) (by have := wr_size cs hl; simpa using this) (all_oneCell_toArray h1)
  simpa using this
theorem sem_array {w : World} {a : Option Addr} {m c : Nat} (h : 64 ≤ m) : (Instr.arrayAt 67 (.slice a m c)).run Try.prog w = .ok (.pointer a) w := by
  have h2 : ¬ m < 64 := by omega
  simp [Instr.arrayAt, run_underlying Try.underlying67, h2]
theorem Sl.row (w : World) (cs : List Value) (t : TypeId) (size n : Nat) (h : cs.length = n * size) : Sl (w.alloc (.cells cs.toArray t)) size (some ⟨w.heap.size, 0, none⟩) n cs :=
  ⟨h, fun _ => ⟨_, 0, rfl, fun j u hu => by
    rw [Nat.zero_add]
    have := cell_of_row (w.alloc (.cells cs.toArray t)) w.heap.size j cs.toArray t (0, 0) (heap_alloc_new w _)
    rw [this]; simpa using hu⟩⟩
/-! Loads and stores of many cells, taken by the walk ahead of everything else. -/
def loadIn (P : Program) (t : TypeId) (v : Value) (w : World) : Result Value := (Instr.loadAt t v).run P w
def storeIn (P : Program) (t : TypeId) (v x : Value) (w : World) : Result Unit := (Instr.storeAt t v x).run P w
theorem opwp_loadS {a : Act} {w : World} {K : Act → World → Prop} {Q : Exit → Act → World → Prop} {dd : Option Tmp} {x : Operand} {ty : TypeId} {ps : String} {af : Array Edge} {gu : Option (Nat × Bool)} :
    Oper.wp Try.prog { dst := dd, op := .load 67 x, type := ty, pos := ps, after := af, guard := gu } a w K Q = Oper.upon Try.prog { dst := dd, op := .load 67 x, type := ty, pos := ps, after := af, guard := gu } a K Q ((loadIn Try.prog 67 (a.eval x) w).andThen fun v w => .ok (.value v) w) := by
  unfold Oper.wp loadIn
  simp only [execOp, Sem.run_bind, Sem.run_pure]
theorem opwp_loadW {a : Act} {w : World} {K : Act → World → Prop} {Q : Exit → Act → World → Prop} {dd : Option Tmp} {x : Operand} {ty : TypeId} {ps : String} {af : Array Edge} {gu : Option (Nat × Bool)} :
    Oper.wp Try.prog { dst := dd, op := .load 70 x, type := ty, pos := ps, after := af, guard := gu } a w K Q = Oper.upon Try.prog { dst := dd, op := .load 70 x, type := ty, pos := ps, after := af, guard := gu } a K Q ((loadIn Try.prog 70 (a.eval x) w).andThen fun v w => .ok (.value v) w) := by
  unfold Oper.wp loadIn
  simp only [execOp, Sem.run_bind, Sem.run_pure]
theorem opwp_storeS {a : Act} {w : World} {K : Act → World → Prop} {Q : Exit → Act → World → Prop} {dd : Option Tmp} {y x : Operand} {ty : TypeId} {ps : String} {af : Array Edge} {gu : Option (Nat × Bool)} :
    Oper.wp Try.prog { dst := dd, op := .store 67 y x, type := ty, pos := ps, after := af, guard := gu } a w K Q = Oper.upon Try.prog { dst := dd, op := .store 67 y x, type := ty, pos := ps, after := af, guard := gu } a K Q ((storeIn Try.prog 67 (a.eval y) (a.eval x) w).andThen fun _ w => .ok .skip w) := by
  unfold Oper.wp storeIn
  simp only [execOp, Sem.run_bind, Sem.run_pure]
theorem opwp_storeW {a : Act} {w : World} {K : Act → World → Prop} {Q : Exit → Act → World → Prop} {dd : Option Tmp} {y x : Operand} {ty : TypeId} {ps : String} {af : Array Edge} {gu : Option (Nat × Bool)} :
    Oper.wp Try.prog { dst := dd, op := .store 70 y x, type := ty, pos := ps, after := af, guard := gu } a w K Q = Oper.upon Try.prog { dst := dd, op := .store 70 y x, type := ty, pos := ps, after := af, guard := gu } a K Q ((storeIn Try.prog 70 (a.eval y) (a.eval x) w).andThen fun _ w => .ok .skip w) := by
  unfold Oper.wp storeIn
  simp only [execOp, Sem.run_bind, Sem.run_pure]
theorem loadS_eq {w : World} {b o : Nat} (h : HasRow w b o 64) : loadIn Try.prog 67 (.pointer (some ⟨b, o, none⟩)) w = .ok (.agg (rowAt w b o 64).toArray) w := sem_load_sec h
theorem loadW_eq {w : World} {b o : Nat} (h : HasRow w b o 65) : loadIn Try.prog 70 (.pointer (some ⟨b, o, none⟩)) w = .ok (.agg (rowAt w b o 65).toArray) w := sem_load_wr h
theorem storeS_eq {w : World} {b o : Nat} {cs : List Value} (h : MayRow w b o 64) (hl : cs.length = 64) (h1 : ∀ v ∈ cs, v.oneCell' = true) : storeIn Try.prog 67 (.pointer (some ⟨b, o, none⟩)) (.agg cs.toArray) w = .ok () (w.setCells b o cs) := sem_store_sec h hl h1
theorem storeW_eq {w : World} {b o : Nat} {cs : List Value} (h : MayRow w b o 65) (hl : cs.length = 65) (h1 : ∀ v ∈ cs, v.oneCell' = true) : storeIn Try.prog 70 (.pointer (some ⟨b, o, none⟩)) (.agg cs.toArray) w = .ok () (w.setCells b o cs) := sem_store_wr h hl h1
/-! act, Fuse. -/
theorem spend_ok {s : DS} {n : Nat} (h : s.Ok n) : ({ s with fuse := spend s.fuse } : DS).Ok n := by
  have h1 := h.f1; have h2 := h.f2
  refine ⟨h.n1, h.n2, h.len, h.row, ?_, ?_, h.c1, h.c2, h.c3⟩
  · show -1 ≤ spend s.fuse
    unfold spend; split <;> omega
  · show spend s.fuse ≤ _
    unfold spend; split <;> omega
theorem act_any {w : World} {p n : Nat} {SA : Option Addr} {sc : Nat} {gs : Option Nat} {RA : Option Addr} {rc : Nat} {gr : Option Nat} {mb : Nat} {s : DS} (h : DAt w p n SA sc gs RA rc gr mb s) :
    Calls Try.prog 38 #[.pointer (some ⟨p, 0, none⟩)] w fun e w' => e = .returned (.tuple #[]) ∧ DAt w' p n SA sc gs RA rc gr mb { s with fuse := spend s.fuse } ∧ Fr (· = p) w w' := by
  have c3 : w.cell? ⟨p, 3, none⟩ = some (.int .i64 s.fuse) := h.bl.cell' rfl
  have z3 := h.bl.free 3
  have b1 := h.ok.f1; have b2 := h.ok.f2
  have H := hide h
  clear h
  by_cases h0 : s.fuse > 0
  · have hs : Hid (spend s.fuse = s.fuse - 1) := by show _ = _; unfold spend; rw [if_pos h0]
    have hw : IntKind.i64.wrap (s.fuse - 1) = s.fuse - 1 := IntWalk.i64_in _ (by omega)
    go_enter Try.func38, Try.ntmps38
    go_wp2_with fail
    go_end0
    rw [hs.out]
    have hF : Fr (· = p) w (w.setCell ⟨p, 3, none⟩ (.int .i64 (s.fuse - 1))) := (Fr.refl _ _).setAt _
    refine ⟨rfl, ⟨H.out.bl.set 3 _, H.out.safe.fr hF (fun b e e' => H.out.nps (by rw [e, e'])), H.out.rows.fr hF (fun b e e' => H.out.npr (by rw [e, e'])), H.out.last.fr hF H.out.nmp, ?_⟩, hF⟩
    have := spend_ok H.out.ok
    rwa [hs.out] at this
  · have hs : Hid (spend s.fuse = s.fuse) := by show _ = _; unfold spend; rw [if_neg h0]
    go_enter Try.func38, Try.ntmps38
    go_wp2_with fail
    go_end0
    rw [hs.out]
    exact ⟨rfl, H.out, Fr.refl _ _⟩
end Go.Proofs.Ytchajbiloaiekaa
