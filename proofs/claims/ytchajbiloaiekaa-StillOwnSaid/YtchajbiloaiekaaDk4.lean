/-
  disk.Disk: Read; rest.
-/
import Derived.Test.YtchajbiloaiekaaDk3
import Derived.Maps.OwnOps
namespace Go.Proofs.Ytchajbiloaiekaa
open Go.RowKit Go.ChangeMaps Go.MapKept
set_option linter.unusedVariables false
set_option linter.unusedSimpArgs false

/-! A new variable of many cells. -/
def secZ : List Value := List.replicate 64 (.int .u8 0)
def wrZ : List Value := .int .i64 0 :: List.replicate 64 (.int .u8 0)
theorem secZ_len : secZ.length = 64 := by simp [secZ]
theorem wrZ_len : wrZ.length = 65 := by simp [wrZ]
theorem secZero : (Try.prog.info? tSec).bind (fun i => i.zero) = some (.agg (List.replicate 64 (.int .u8 0)).toArray) := by kernel_rfl
theorem wrZero : (Try.prog.info? tWr).bind (fun i => i.zero) = some (.agg (.int .i64 0 :: List.replicate 64 (.int .u8 0)).toArray) := by kernel_rfl
def allocIn (P : Program) (t : TypeId) (w : World) : Result Value := (Instr.alloc t true (.tuple #[])).run P w
theorem opwp_allocS {a : Act} {w : World} {K : Act → World → Prop} {Q : Exit → Act → World → Prop} {dd : Option Tmp} {ty : TypeId} {ps : String} {af : Array Edge} {gu : Option (Nat × Bool)} :
    Oper.wp Try.prog { dst := dd, op := .alloc 67, type := ty, pos := ps, after := af, guard := gu } a w K Q = Oper.upon Try.prog { dst := dd, op := .alloc 67, type := ty, pos := ps, after := af, guard := gu } a K Q ((allocIn Try.prog 67 w).andThen fun v w => .ok (.value v) w) := by
  unfold Oper.wp allocIn
  simp only [execOp, Sem.run_bind, Sem.run_pure]
theorem opwp_allocW {a : Act} {w : World} {K : Act → World → Prop} {Q : Exit → Act → World → Prop} {dd : Option Tmp} {ty : TypeId} {ps : String} {af : Array Edge} {gu : Option (Nat × Bool)} :
    Oper.wp Try.prog { dst := dd, op := .alloc 70, type := ty, pos := ps, after := af, guard := gu } a w K Q = Oper.upon Try.prog { dst := dd, op := .alloc 70, type := ty, pos := ps, after := af, guard := gu } a K Q ((allocIn Try.prog 70 w).andThen fun v w => .ok (.value v) w) := by
  unfold Oper.wp allocIn
  simp only [execOp, Sem.run_bind, Sem.run_pure]
theorem alloc_any {P : Program} {t : TypeId} {w : World} {cs : Array Value} (h : (P.info? t).bind (fun i => i.zero) = some (.agg cs)) : allocIn P t w = .ok (.pointer (some ⟨w.heap.size, 0, none⟩)) (w.alloc (.cells cs t)) := by
  cases hi : P.info? t with
  | none => rw [hi] at h; cases h
  | some i =>
    rw [hi] at h
    simp at h
    simp [allocIn, Instr.alloc, zeroValue, typeInfo, hi, h, newVar, newRow, Value.cells]
theorem allocS_eq {w : World} : allocIn Try.prog 67 w = .ok (.pointer (some ⟨w.heap.size, 0, none⟩)) (w.alloc (.cells secZ.toArray 67)) := alloc_any secZero
theorem allocW_eq {w : World} : allocIn Try.prog 70 w = .ok (.pointer (some ⟨w.heap.size, 0, none⟩)) (w.alloc (.cells wrZ.toArray 70)) := alloc_any wrZero
theorem MayRow.new {w : World} {cs : List Value} {t : TypeId} {n : Nat} (h : cs.length = n) : MayRow (w.alloc (.cells cs.toArray t)) w.heap.size 0 n := fun j hj => by
  have hb := Bl.new w t cs.toArray
  rw [Nat.zero_add]
  exact ⟨by rw [hb.cell]; simp; omega, hb.free j⟩
theorem mayNewS {w : World} : MayRow (w.alloc (.cells secZ.toArray 67)) w.heap.size 0 64 := MayRow.new secZ_len
theorem mayNewW {w : World} : MayRow (w.alloc (.cells wrZ.toArray 70)) w.heap.size 0 65 := MayRow.new wrZ_len
/-- 64 cells, 65 cells, each of them one cell. -/
def Row64 (cs : List Value) : Prop := cs.length = 64 ∧ ∀ v ∈ cs, v.oneCell' = true
def Row65 (cs : List Value) : Prop := cs.length = 65 ∧ ∀ v ∈ cs, v.oneCell' = true
theorem mayNewC {w : World} {cs : List Value} {t : TypeId} (h : Row64 cs) : MayRow (w.alloc (.cells cs.toArray t)) w.heap.size 0 64 := MayRow.new h.1
theorem storeS_row {w : World} {b o : Nat} {cs : List Value} (h : MayRow w b o 64) (hr : Row64 cs) : storeIn Try.prog 67 (.pointer (some ⟨b, o, none⟩)) (.agg cs.toArray) w = .ok () (w.setCells b o cs) := storeS_eq h hr.1 hr.2
theorem storeW_row {w : World} {b o : Nat} {cs : List Value} (h : MayRow w b o 65) (hr : Row65 cs) : storeIn Try.prog 70 (.pointer (some ⟨b, o, none⟩)) (.agg cs.toArray) w = .ok () (w.setCells b o cs) := storeW_eq h hr.1 hr.2
/-- A block whose cells are written whole. -/
theorem setCells_mid (b : Nat) (t : TypeId) (fr : Nat × Nat) : ∀ (cs : List Value) (o : Nat) (zs : Array Value) (w : World), w.heap[b]? = some (.cells zs t fr) → o + cs.length ≤ zs.size →
    ∃ zs' : Array Value, (w.setCells b o cs).heap = w.heap.setIfInBounds b (.cells zs' t fr) ∧ zs'.size = zs.size ∧ (∀ j, j < o → zs'[j]? = zs[j]?) ∧ (∀ j v, cs[j]? = some v → zs'[o + j]? = some v) ∧ (∀ j, o + cs.length ≤ j → zs'[j]? = zs[j]?)
  | [], o, zs, w, h, _ => ⟨zs, by
      show w.heap = _
      obtain ⟨h1, h2⟩ := Array.getElem?_eq_some_iff.1 h
      apply Array.ext_getElem?
      intro i
      rw [Array.getElem?_setIfInBounds]
      by_cases hi : b = i
      · subst hi; rw [if_pos rfl, if_pos h1, h]
      · rw [if_neg hi], rfl, fun _ _ => rfl, fun j v hv => by simp at hv, fun _ _ => rfl⟩
  | c :: cs, o, zs, w, h, hl => by
    simp only [List.length_cons] at hl
    have hb := (Array.getElem?_eq_some_iff.1 h).1
    have h1 : (w.setCell ⟨b, o, none⟩ c).heap[b]? = some (.cells (zs.setIfInBounds o c) t fr) := by
      simp [World.setCell, Array.getElem?_modify, h]
    obtain ⟨zs', a1, a2, a3, a4, a5⟩ := setCells_mid b t fr cs (o + 1) _ (w.setCell ⟨b, o, none⟩ c) h1 (by simp; omega)
    refine ⟨zs', ?_, by simpa using a2, fun j hj => ?_, fun j v hv => ?_, fun j hj => ?_⟩
    · show ((w.setCell ⟨b, o, none⟩ c).setCells b (o + 1) cs).heap = _
      rw [a1]
      apply Array.ext_getElem?
      intro i
      rw [Array.getElem?_setIfInBounds, Array.getElem?_setIfInBounds]
      have hs : (w.setCell ⟨b, o, none⟩ c).heap.size = w.heap.size := by simp [World.setCell]
      by_cases hi : b = i
      · subst hi; rw [if_pos rfl, if_pos rfl, hs]
      · rw [if_neg hi, if_neg hi]
        exact Below.heap_setCell w ⟨b, o, none⟩ c i (fun e => hi e.symm)
    · rw [a3 j (by omega), Array.getElem?_setIfInBounds_ne (by omega)]
    · rcases j with _ | j
      · simp at hv; subst hv
        rw [Nat.add_zero, a3 o (by omega), Array.getElem?_setIfInBounds_self_of_lt (by omega)]
      · rw [show o + (j + 1) = o + 1 + j by omega]; exact a4 j v (by simpa using hv)
    · simp only [List.length_cons] at hj
      rw [a5 j (by omega), Array.getElem?_setIfInBounds_ne (by omega)]
theorem world_heap {w w' : World} (h : w.heap = w'.heap) (hr : { w with heap := w'.heap } = w') : w = w' := by rw [← hr, ← h]
theorem setCells_rest (b : Nat) : ∀ (cs : List Value) (o : Nat) (w : World), w.setCells b o cs = { w with heap := (w.setCells b o cs).heap }
  | [], o, w => rfl
  | c :: cs, o, w => by
    show (w.setCell ⟨b, o, none⟩ c).setCells b (o + 1) cs = _
    rw [setCells_rest b cs (o + 1) (w.setCell ⟨b, o, none⟩ c)]
    rfl
theorem setCells_new {w : World} {zs : Array Value} {t : TypeId} {cs : List Value} (h : cs.length = zs.size) : (w.alloc (.cells zs t)).setCells w.heap.size 0 cs = w.alloc (.cells cs.toArray t) := by
  obtain ⟨zs', a1, a2, a3, a4, a5⟩ := setCells_mid w.heap.size t (0, 0) cs 0 zs (w.alloc (.cells zs t)) (Bl.new w t zs) (by omega)
  have : zs' = cs.toArray := by
    apply Array.ext_getElem?
    intro i
    by_cases hi : i < cs.length
    · have := a4 i cs[i] (List.getElem?_eq_getElem hi)
      rw [Nat.zero_add] at this
      rw [this]; simp [hi]
    · rw [Array.getElem?_eq_none (by omega), Array.getElem?_eq_none (by simp; omega)]
  rw [setCells_rest, a1, this]
  simp only [World.alloc]
  congr 1
  apply Array.ext_getElem?
  intro i
  rw [Array.getElem?_setIfInBounds]
  simp only [Array.getElem?_push, Array.size_push]
  by_cases hi : w.heap.size = i
  · subst hi; simp
  · rw [if_neg hi, if_neg (fun e => hi e.symm), if_neg (fun e => hi e.symm)]
theorem setNewS {w : World} {cs : List Value} (h : Row64 cs) : (w.alloc (.cells secZ.toArray 67)).setCells w.heap.size 0 cs = w.alloc (.cells cs.toArray 67) := setCells_new (by simp [secZ_len, h.1])
theorem setNewW {w : World} {cs : List Value} (h : Row65 cs) : (w.alloc (.cells wrZ.toArray 70)).setCells w.heap.size 0 cs = w.alloc (.cells cs.toArray 70) := setCells_new (by simp [wrZ_len, h.1])
theorem setNewC {w : World} {ds cs : List Value} {t : TypeId} (hd : Row64 ds) (h : Row64 cs) : (w.alloc (.cells ds.toArray t)).setCells w.heap.size 0 cs = w.alloc (.cells cs.toArray t) := setCells_new (by simp [hd.1, h.1])

/-- What a read tells of a sector. -/
def DS.told (s : DS) (k : Nat) : List Nat := match lastOf s.row k with
  | some j => (s.row.getD j (0, [])).2
  | none => (s.sf.drop (k * 64)).take 64
def readN (n : Nat) (s : DS) (at_ : Int) : Int := if s.fuse = 0 then 80 else if at_ < 0 ∨ (n : Int) ≤ at_ then 81 else 0
theorem read_bad {w : World} {p n : Nat} {F : Nat → Prop} {s : DS} (h : DI w p n F s) (at_ : Int) (hw : readN n s at_ ≠ 0) :
    Calls Try.prog 22 #[.pointer (some ⟨p, 0, none⟩), .int .i64 at_] w fun e w' => e = .returned (.tuple #[.slice none 0 0, .int .i64 (readN n s at_)]) ∧ w = w' := by
  have ha := asked_any h
  obtain ⟨SA, sc, RA, rc, mb, hb⟩ := h.bl
  have c0 : w.cell? ⟨p, 0, none⟩ = some (.slice SA n sc) := hb.cell' rfl
  unfold readN at hw ⊢
  unfold askN at ha
  by_cases h0 : s.fuse = 0
  · rw [if_pos h0] at ha ⊢
    clear hw
    go_enter Try.func22, Try.ntmps22
    go_wp2_with fail
    refine ha.mono ?_
    rintro e w' ⟨rfl, rfl⟩
    go_wp2_with fail
    go_ret2
    exact ⟨rfl, rfl⟩
  · rw [if_neg h0] at ha hw ⊢
    by_cases h1 : at_ < 0
    · rw [if_pos (.inl h1)]
      clear hw
      go_enter Try.func22, Try.ntmps22
      go_wp2_with fail
      refine ha.mono ?_
      rintro e w' ⟨rfl, rfl⟩
      go_wp2_with fail
      go_ret2
      exact ⟨rfl, rfl⟩
    · by_cases h2 : (n : Int) ≤ at_
      · rw [if_pos (.inr h2)]
        clear hw
        go_enter Try.func22, Try.ntmps22
        go_wp2_with fail
        refine ha.mono ?_
        rintro e w' ⟨rfl, rfl⟩
        go_wp2_with fail
        go_ret2
        exact ⟨rfl, rfl⟩
      · rw [if_neg (by omega)] at hw; exact absurd rfl hw
attribute [local go_sem ↓] opwp_loadS opwp_loadW opwp_storeS opwp_storeW opwp_allocS opwp_allocW
attribute [local go_sem] loadS_eq loadW_eq storeS_row storeW_row allocS_eq allocW_eq mayNewS mayNewW setNewS setNewW mayNewC setNewC
/-- A sector's cells among the safe ones. -/
theorem safe_at {w : World} {n sc : Nat} {SA : Option Addr} {sf : List Nat} {gs : Option Nat} (h : Ow w tSec 64 SA n sc (sf.map bn) gs) (k : Nat) (hk : k < n) :
    ∃ b o, SA = some ⟨b, o, none⟩ ∧ gs = some b ∧ ((sf.drop (k * 64)).take 64).length = 64 ∧ w.rangeAt b (o + k * 64) (((sf.drop (k * 64)).take 64).map bn) ∧ w.there b (o + k * 64) 64 := by
  obtain ⟨h1, h2⟩ := h
  rw [List.length_map] at h1
  rcases h2 with ⟨_, h0, _⟩ | ⟨b, o, cur, hA, hg, hh, q1, q2, q3, q4⟩
  · omega
  · refine ⟨b, o, hA, hg, by rw [List.length_take, List.length_drop]; omega, fun j v hv => ?_, fun j hj => ?_⟩
    · have hj : j < 64 := by have := (List.getElem?_eq_some_iff.1 hv).1; rw [List.length_map, List.length_take] at this; omega
      have := q4 (k * 64 + j) (by omega)
      have e : (⟨b, o + k * 64 + j, none⟩ : Addr) = ⟨b, o + (k * 64 + j), none⟩ := by rw [Nat.add_assoc]
      rw [e]
      have e2 : w.cell? ⟨b, o + (k * 64 + j), none⟩ = cur[o + (k * 64 + j)]? := by simp [World.cell?, hh]
      rw [e2, this, ← hv]
      rw [List.map_take, List.map_drop, List.getElem?_take_of_lt hj, List.getElem?_drop]
    · have := q4 (k * 64 + j) (by omega)
      refine ⟨?_, by simp [World.frozen?, hh]⟩
      have e : (⟨b, o + k * 64 + j, none⟩ : Addr) = ⟨b, o + (k * 64 + j), none⟩ := by rw [Nat.add_assoc]
      rw [e]
      have e2 : w.cell? ⟨b, o + (k * 64 + j), none⟩ = cur[o + (k * 64 + j)]? := by simp [World.cell?, hh]
      rw [e2, this, List.getElem?_eq_getElem (by rw [List.length_map]; omega)]
      rfl
theorem wcells_len {r : Nat × List Nat} (h : r.2.length = 64) : (wcells r).length = 65 := by simp [wcells, h]
theorem flat_at : ∀ (l : List (Nat × List Nat)) (k : Nat) (r : Nat × List Nat), (∀ r ∈ l, r.2.length = 64) → l[k]? = some r → (l.flatMap wcells).drop (k * 65) = wcells r ++ (l.drop (k + 1)).flatMap wcells
  | [], k, r, _, h => by simp at h
  | x :: l, 0, r, hl, h => by simp at h; subst h; simp
  | x :: l, k + 1, r, hl, h => by
    have h1 := flat_at l k r (fun r hr => hl r (List.mem_cons_of_mem _ hr)) (by simpa using h)
    rw [List.flatMap_cons, List.drop_append, wcells_len (hl x (List.mem_cons_self ..)), List.drop_eq_nil_of_le (by rw [wcells_len (hl x (List.mem_cons_self ..))]; omega), List.nil_append, show (k + 1) * 65 - 65 = k * 65 by omega, h1]
    simp
/-- A waiting write's cells. -/
theorem row_at {w : World} {n c : Nat} {A : Option Addr} {row : List (Nat × List Nat)} {g : Option Nat} (h : Ow w tWr 65 A n c (row.flatMap wcells) g) (hl : ∀ r ∈ row, r.2.length = 64) (k : Nat) (r : Nat × List Nat) (hk : row[k]? = some r) :
    ∃ b o, A = some ⟨b, o, none⟩ ∧ g = some b ∧ k < n ∧ w.rangeAt b (o + k * 65) (wcells r) := by
  have hkl := (List.getElem?_eq_some_iff.1 hk).1
  have hf := flat_at row k r hl hk
  have hr : (wcells r).length = 65 := wcells_len (hl r (List.mem_of_getElem? hk))
  obtain ⟨h1, h2⟩ := h
  have hd : ((row.flatMap wcells).drop (k * 65)).length = 65 + ((row.drop (k + 1)).flatMap wcells).length := by rw [hf, List.length_append, hr]
  rw [List.length_drop] at hd
  have hkn : k < n := by
    apply Nat.lt_of_not_le
    intro h
    have := Nat.mul_le_mul_right 65 h
    omega
  rcases h2 with ⟨_, h0, _⟩ | ⟨b, o, cur, hA, hg, hh, q1, q2, q3, q4⟩
  · omega
  · refine ⟨b, o, hA, hg, hkn, fun j v hv => ?_⟩
    have hj : j < 65 := by have := (List.getElem?_eq_some_iff.1 hv).1; omega
    have := q4 (k * 65 + j) (by omega)
    have e : (⟨b, o + k * 65 + j, none⟩ : Addr) = ⟨b, o + (k * 65 + j), none⟩ := by rw [Nat.add_assoc]
    rw [e]
    have e2 : w.cell? ⟨b, o + (k * 65 + j), none⟩ = cur[o + (k * 65 + j)]? := by simp [World.cell?, hh]
    rw [e2, this, ← List.getElem?_drop, hf, List.getElem?_append_left (by omega), hv]
theorem owns_fr {w w' : World} {R : Value → Option (DataW Unit × List MemPlace)} {t : TypeId} {b m : Nat} {D : DataW Unit} {S : Nat → Prop} (h : w.ownsMap Try.prog t R b m D) (hf : Fr S w w') (hS : ¬ S b) : w'.ownsMap Try.prog t R b m D := by
  obtain ⟨es, clock, hb, r⟩ := h
  exact ⟨es, clock, (hf.block b (Array.getElem?_eq_some_iff.1 hb).1 hS).trans hb, r⟩
theorem int_zero (w : World) : (zeroValue 3).run Try.prog w = .ok (.int .i64 0) w := by
  obtain ⟨i, v, hi, hz, h⟩ : ∃ (i : TypeInfo) (v : Value), Try.prog.info? 3 = some i ∧ i.zero = some v ∧ v = .int .i64 0 := by
    have h : (Try.prog.info? 3).bind (fun i => i.zero) = some (.int .i64 0) := by kernel_rfl
    cases hi : Try.prog.info? 3 with
    | none => rw [hi] at h; cases h
    | some i => rw [hi] at h; simp at h; exact ⟨i, _, rfl, h, rfl⟩
  subst h
  simp [zeroValue, typeInfo, hi, hz]
theorem read_none {w : World} {p n : Nat} {F : Nat → Prop} {s : DS} (h : DI w p n F s) (k : Nat) (hf : s.fuse ≠ 0) (hk : k < n) (hl : lastOf s.row k = none) :
    Calls Try.prog 22 #[.pointer (some ⟨p, 0, none⟩), .int .i64 (k : Int)] w fun e w' => e = .returned (.tuple #[.slice (some ⟨w.heap.size, 0, none⟩) 64 64, .int .i64 0]) ∧ w' = w.alloc (.cells (((s.sf.drop (k * 64)).take 64).map bn).toArray 67) := by
  have ha := asked_any h
  unfold askN at ha
  rw [if_neg hf] at ha
  obtain ⟨SA, sc, gs, RA, rc, gr, mb, h, rfl⟩ := h
  have c0 : w.cell? ⟨p, 0, none⟩ = some (.slice SA n sc) := h.bl.cell' rfl
  have c2 : w.cell? ⟨p, 2, none⟩ = some (.map (some mb)) := h.bl.cell' rfl
  obtain ⟨D, m, hD, hm, hkk⟩ := h.last
  have hn2 := h.ok.n2
  obtain ⟨hh, -⟩ := hkk k (by omega)
  rw [hl] at hh
  obtain ⟨b, o, rfl, hgs, hlen, hr, ht⟩ := safe_at h.safe k hk
  have hone := bn_one ((s.sf.drop (k * 64)).take 64)
  obtain ⟨cs, hcs⟩ : ∃ cs, ((s.sf.drop (k * 64)).take 64).map bn = cs := ⟨_, rfl⟩
  rw [← List.length_map (f := bn), hcs] at hlen
  rw [hcs] at hr hone ⊢
  have hrow1 : HasRow w b (o + k * 64) 64 := HasRow.of hr hlen
  have hrow2 : rowAt w b (o + k * 64) 64 = cs := rowAt_of hr hlen
  have hR : Row64 cs := ⟨hlen, hone⟩
  clear hlen hone
  have HA := hide ha
  have key := key_ok k (by omega)
  have i1 : ¬ (k : Int) < 0 := by omega
  have i2 : ¬ (n : Int) ≤ (k : Int) := by omega
  have d0 : (w.alloc (.cells cs.toArray 67)).ownsMap Try.prog 3 (plainElem Try.prog 3) mb m D := owns_fr hD (Fr.alloc (Fr.refl (fun _ => False) w) _) id
  have c2a : (w.alloc (.cells cs.toArray 67)).cell? ⟨p, 2, none⟩ = some (.map (some mb)) := ((Fr.alloc (Fr.refl (fun _ => False) w) _).cell (World.block_lt_of_cell? w _ c2) id).trans c2
  clear h ha hkk hr ht c2
  go_enter Try.func22, Try.ntmps22
  go_wp2_with fail
  refine HA.out.mono ?_
  rintro e w' ⟨rfl, rfl⟩
  go_wp2_with (at_lookup; refine wpList_lookup_own_ok_int _ rfl _ _ 50 rfl 3 3 .i64 kLast Try.underlying50 Try.underlying3 (int_zero _) mb m D rfl d0 _ _ rfl key ?_; intro c hat hwc; rw [hh])
  go_ret2
  exact ⟨rfl, rfl⟩

theorem range_tail {w : World} {b o : Nat} {v : Value} {cs : List Value} (h : w.rangeAt b o (v :: cs)) : w.rangeAt b (o + 1) cs := fun j u hu => by
  have := h (j + 1) u (by simpa using hu)
  rwa [show o + (j + 1) = o + 1 + j by omega] at this
theorem HasRow.fr {w w' : World} {b o n : Nat} {S : Nat → Prop} (h : HasRow w b o n) (hn : 0 < n) (hf : Fr S w w') (hS : ¬ S b) : HasRow w' b o n ∧ rowAt w' b o n = rowAt w b o n := by
  obtain ⟨u, hu⟩ := Option.isSome_iff_exists.1 (h 0 hn)
  have hb := World.block_lt_of_cell? w _ hu
  have e : ∀ j, w'.cell? ⟨b, o + j, none⟩ = w.cell? ⟨b, o + j, none⟩ := fun j => hf.cell (p := ⟨b, o + j, none⟩) hb hS
  refine ⟨fun j hj => by rw [e]; exact h j hj, ?_⟩
  unfold rowAt
  simp only [e]
theorem read_some {w : World} {p n : Nat} {F : Nat → Prop} {s : DS} (h : DI w p n F s) (k : Nat) (hf : s.fuse ≠ 0) (hk : k < n) {l : Nat} (hl : lastOf s.row k = some l) :
    Calls Try.prog 22 #[.pointer (some ⟨p, 0, none⟩), .int .i64 (k : Int)] w fun e w' => e = .returned (.tuple #[.slice (some ⟨w.heap.size, 0, none⟩) 64 64, .int .i64 0]) ∧ w' = w.alloc (.cells ((s.row.getD l (0, [])).2.map bn).toArray 67) := by
  have ha := asked_any h
  unfold askN at ha
  rw [if_neg hf] at ha
  obtain ⟨SA, sc, gs, RA, rc, gr, mb, h, rfl⟩ := h
  have c0 : w.cell? ⟨p, 0, none⟩ = some (.slice SA n sc) := h.bl.cell' rfl
  have c1 : w.cell? ⟨p, 1, none⟩ = some (.slice RA s.row.length rc) := h.bl.cell' rfl
  have c2 : w.cell? ⟨p, 2, none⟩ = some (.map (some mb)) := h.bl.cell' rfl
  obtain ⟨D, m, hD, hm, hkk⟩ := h.last
  have hn2 := h.ok.n2
  obtain ⟨hh, hj⟩ := hkk k (by omega)
  have hj2 := hj l hl
  rw [hl] at hh
  obtain ⟨b, o, rfl, hgs, hlen, hr, ht⟩ := safe_at h.safe k hk
  have hone := bn_one ((s.sf.drop (k * 64)).take 64)
  obtain ⟨cs, hcs⟩ : ∃ cs, ((s.sf.drop (k * 64)).take 64).map bn = cs := ⟨_, rfl⟩
  rw [← List.length_map (f := bn), hcs] at hlen
  rw [hcs] at hr hone
  obtain ⟨hll, -⟩ := lastOf_lt hl
  obtain ⟨r, hrl⟩ : ∃ r, s.row[l]? = some r := ⟨_, List.getElem?_eq_getElem hll⟩
  obtain ⟨b2, o2, rfl, hgr, hln, hr2⟩ := row_at h.rows (fun r hr => (h.ok.row r hr).2) l r hrl
  have hr3 := range_tail hr2
  have hlen2 : (r.2.map bn).length = 64 := by rw [List.length_map]; exact (h.ok.row r (List.mem_of_getElem? hrl)).2
  have hone2 := bn_one r.2
  have hgd : (s.row.getD l (0, [])) = r := by rw [List.getD_eq_getElem?_getD, hrl]; rfl
  rw [hgd]
  obtain ⟨ds, hds⟩ : ∃ ds, r.2.map bn = ds := ⟨_, rfl⟩
  rw [hds] at hr3 hlen2 hone2 ⊢
  have hrow1 : HasRow w b (o + k * 64) 64 := HasRow.of hr hlen
  have hrow2 : rowAt w b (o + k * 64) 64 = cs := rowAt_of hr hlen
  have fa : Fr (fun _ => False) w (w.alloc (.cells cs.toArray 67)) := Fr.alloc (Fr.refl (fun _ => False) w) _
  have hrow3 : HasRow (w.alloc (.cells cs.toArray 67)) b2 (o2 + l * 65 + 1) 64 := ((HasRow.of hr3 hlen2).fr (by omega) fa id).1
  have hrow4 : rowAt (w.alloc (.cells cs.toArray 67)) b2 (o2 + l * 65 + 1) 64 = ds := ((HasRow.of hr3 hlen2).fr (by omega) fa id).2.trans (rowAt_of hr3 hlen2)
  have hR : Row64 cs := ⟨hlen, hone⟩
  have hR2 : Row64 ds := ⟨hlen2, hone2⟩
  clear hlen hone hlen2 hone2
  have HA := hide ha
  have key := key_ok k (by omega)
  have i1 : ¬ (k : Int) < 0 := by omega
  have i2 : ¬ (n : Int) ≤ (k : Int) := by omega
  have d0 : (w.alloc (.cells cs.toArray 67)).ownsMap Try.prog 3 (plainElem Try.prog 3) mb m D := owns_fr hD fa id
  have c2a : (w.alloc (.cells cs.toArray 67)).cell? ⟨p, 2, none⟩ = some (.map (some mb)) := (fa.cell (World.block_lt_of_cell? w _ c2) id).trans c2
  have c1a : (w.alloc (.cells cs.toArray 67)).cell? ⟨p, 1, none⟩ = some (.slice (some ⟨b2, o2, none⟩) s.row.length rc) := (fa.cell (World.block_lt_of_cell? w _ c1) id).trans c1
  clear h ha hkk hr ht c2 c1 hr2 hr3 hgd hrl hl
  go_enter Try.func22, Try.ntmps22
  go_wp2_with fail
  refine HA.out.mono ?_
  rintro e w' ⟨rfl, rfl⟩
  go_wp2_with (at_lookup; refine wpList_lookup_own_ok_int _ rfl _ _ 50 rfl 3 3 .i64 kLast Try.underlying50 Try.underlying3 (int_zero _) mb m D rfl d0 _ _ rfl key ?_; intro c hat hwc; rw [hh]; rw [hj2] at hat; cases hat)
  go_ret2
  exact ⟨rfl, rfl⟩

/-! rest. -/
theorem run_clear {P : Program} {w : World} {b : Nat} {es : Array MapEntry} {clock : Nat} {t k e ty : TypeId} (ht : P.underlying t = some (.map k e)) (hb : w.heap[b]? = some (.map es clock)) :
    (Builtin.clear_ #[t] ty #[.map (some b)]).run P w = .ok (.tuple #[]) (setBlock w b (.map #[] clock)) := by
  have h1 : ∀ o, (setObj b o).run P w = .ok () (setBlock w b o) := fun o => by
    have hlt := (Array.getElem?_eq_some_iff.1 hb).1
    simp [setObj, Sem.run, hb, setBlock]
  simp [Builtin.clear_, run_underlying ht, Go.MapKept.run_getObj_map hb, h1]
theorem wpList_clear {P : Program} {ops : Array Oper} {rest : List Oper} {o : Oper} {a : Act} {w : World} {Q : Exit → Act → World → Prop} (hg : o.guard = none) (m : Operand) (t k e : TypeId) (hop : o.op = Op.call { callee := Callee.builtin Builtin.clear, args := #[m], argTypes := #[t] })
    (ht : P.underlying t = some (.map k e)) (b : Nat) (hm : a.eval m = .map (some b)) {es : Array MapEntry} {clock : Nat} (hb : w.heap[b]? = some (.map es clock))
    (hK : wpList P ops Q rest (a.put o.dst (.tuple #[])) (setBlock w b (.map #[] clock))) : wpList P ops Q (o :: rest) a w := by
  refine wpList_plain hg fun K' hK' => ?_
  unfold Oper.wp execOp
  simp only [hop, resolve, invoke, builtin, Sem.run_bind, Sem.run_pure, Result.andThen_ok, List.map_toArray, List.map_cons, List.map_nil, hm, run_clear ht hb]
  exact hK' _ _ hK
theorem cleared {w : World} {b : Nat} {es : Array MapEntry} {clock : Nat} (hb : w.heap[b]? = some (.map es clock)) : LastAt (setBlock w b (.map #[] clock)) b [] ∧ Fr (fun x => x = b) w (setBlock w b (.map #[] clock)) := by
  refine ⟨⟨.map [], 0, ⟨#[], clock, heap_setBlock_same hb _, ⟨by simp, stamped_empty clock, by simp⟩, Nat.le_refl _, rfl⟩, Nat.le_refl _, fun k _ => ⟨rfl, fun j hj => by cases hj⟩⟩, ⟨rfl, rfl, rfl, by simp [setBlock], fun k hk hs => heap_setBlock_other hb _ hs⟩⟩
theorem rest_any {w : World} {p n : Nat} {SA : Option Addr} {sc : Nat} {gs : Option Nat} {RA : Option Addr} {rc : Nat} {gr : Option Nat} {mb : Nat} {s : DS} (h : DAt w p n SA sc gs RA rc gr mb s) :
    Calls Try.prog 37 #[.pointer (some ⟨p, 0, none⟩)] w fun e w' => e = .returned (.tuple #[]) ∧ DAt w' p n SA sc gs none 0 none mb { s with row := [] } ∧ Fr (fun k => k = p ∨ k = mb) w w' := by
  have c2 : w.cell? ⟨p, 2, none⟩ = some (.map (some mb)) := h.bl.cell' rfl
  have c1 : w.cell? ⟨p, 1, none⟩ = some (.slice RA s.row.length rc) := h.bl.cell' rfl
  have z1 := h.bl.free 1
  obtain ⟨D, m, ⟨es, clock, hb, -⟩, -⟩ := h.last
  have hF : Fr (· = p) w (w.setCell ⟨p, 1, none⟩ (.slice none 0 0)) := (Fr.refl _ _).setAt _
  have hmp := h.nmp
  have hb1 : (w.setCell ⟨p, 1, none⟩ (.slice none 0 0)).heap[mb]? = some (.map es clock) := (hF.block mb h.last.lt hmp).trans hb
  obtain ⟨k1, k2⟩ := cleared hb1
  have H := hide h
  clear h
  go_enter Try.func37, Try.ntmps37
  go_wp2_with (refine wpList_clear rfl _ 50 _ _ rfl Try.underlying50 mb rfl hb1 ?_)
  go_end0
  have h := H.out
  have kb := k2.size
  refine ⟨rfl, ⟨?_, ?_, Ow.nil_ _ _ _, k1, ⟨h.ok.n1, h.ok.n2, h.ok.len, fun r hr => (by cases hr), h.ok.f1, h.ok.f2, Nat.zero_le _, h.ok.c2, h.ok.c3⟩⟩, (hF.mono fun k _ e => .inl e).trans (k2.mono fun k _ e => .inr e)⟩
  · have := (h.bl.set 1 (.slice none 0 0)).fr k2 hmp.symm
    simpa using this
  · exact (h.safe.fr hF (fun b e e' => h.nps (by rw [e, e']))).fr k2 (fun b e e' => h.nms (by rw [e, e']))
end Go.Proofs.Ytchajbiloaiekaa
