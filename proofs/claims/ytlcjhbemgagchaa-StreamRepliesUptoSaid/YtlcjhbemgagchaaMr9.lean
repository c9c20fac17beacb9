/-
  Texts merged into one, to keep the claim small: Row, TlvL4.
-/
import Derived.Laws.Rows
import Derived.Laws.Tables
import Derived.Deep.WholeRow
import Derived.Laws.CopyRow
import Derived.Test.YtlcjhbemgagchaaMr0
import Derived.Test.YtlcjhbemgagchaaMr7
section
/-
  Whole structs out of and into a part of a block, in one step.
-/
namespace Go.Proofs.Ytlcjhbemgagchaa
open Go.RowKit
set_option linter.unusedVariables false
set_option linter.unusedSimpArgs false
section
variable {P : Program}
def putAt (cur : Array Value) : Nat → List Value → Array Value
  | _, [] => cur
  | k, v :: vs => putAt (cur.setIfInBounds k v) (k + 1) vs
theorem putAt_list : ∀ (vs : List Value) (k : Nat) (cur : Array Value), k + vs.length ≤ cur.size → (putAt cur k vs).toList = cur.toList.take k ++ (vs ++ cur.toList.drop (k + vs.length))
  | [], k, cur, _ => by simp [putAt]
  | v :: vs, k, cur, h => by
    have hk : k < cur.size := by simp at h; omega
    rw [putAt, putAt_list vs (k + 1) _ (by simp at h ⊢; omega)]
    rw [Array.toList_setIfInBounds]
    have hl : k < cur.toList.length := by simpa using hk
    have h1 : (cur.toList.set k v).take (k + 1) = cur.toList.take k ++ [v] := by
      apply List.ext_getElem?
      intro i
      rcases Nat.lt_trichotomy i k with hi | hi | hi
      · rw [List.getElem?_take, if_pos (by omega), List.getElem?_set, if_neg (by omega), List.getElem?_append_left (by rw [List.length_take]; omega), List.getElem?_take, if_pos hi]
      · subst hi
        rw [List.getElem?_take, if_pos (by omega), List.getElem?_set, if_pos rfl, if_pos hl, List.getElem?_append_right (by rw [List.length_take]; omega)]
        rw [List.length_take, show i - min i cur.toList.length = 0 by omega]
        rfl
      · rw [List.getElem?_take, if_neg (by omega), List.getElem?_eq_none (by rw [List.length_append, List.length_take]; simp; omega)]
    have h2 : (cur.toList.set k v).drop (k + 1 + vs.length) = cur.toList.drop (k + (v :: vs).length) := by
      rw [List.drop_set_of_lt (by omega)]
      congr 1
      simp; omega
    rw [h1, h2]
    simp
theorem add_at (g o i : Nat) : (⟨g, o, none⟩ : Addr).add i = ⟨g, o + i, none⟩ := by unfold Addr.add; simp
theorem run_storeCells_at (g o : Nat) (t : TypeId) : ∀ (vs : List Value) (i : Nat) (cur : Array Value) (w : World), w.heap[g]? = some (.cells cur t (0, 0)) → o + i + vs.length ≤ cur.size → (∀ v ∈ vs, v.oneCell' = true) →
    (storeCells ⟨g, o, none⟩ vs i).run P w = .ok () (w.setRow g (putAt cur (o + i) vs))
  | [], i, cur, w, hg, hl, _ => by
    rw [putAt, setRow_self w g cur t (0, 0) hg]
    rfl
  | v :: rest, i, cur, w, hg, hl, h1 => by
    have hi : o + i < cur.size := by simp at hl; omega
    have hcell : w.cell? ⟨g, o + i, none⟩ = some cur[o + i] := by simp [World.cell?, hg, hi]
    have hfro : w.frozen? ⟨g, o + i, none⟩ = false := by simp [World.frozen?, hg]
    have hst : (store ((⟨g, o, none⟩ : Addr).add i) v).run P w = .ok () (w.setRow g (cur.setIfInBounds (o + i) v)) := by
      rw [add_at, run_store P w _ v _ (h1 v (by simp)), hcell]
      simp [hfro, setCell_eq_setRow w g (o + i) cur t (0, 0) v hg]
    have ih := run_storeCells_at g o t rest (i + 1) (cur.setIfInBounds (o + i) v) (w.setRow g (cur.setIfInBounds (o + i) v)) (setRow_heap w g cur _ t _ hg) (by simp at hl ⊢; omega) (fun x hx => h1 x (by simp [hx]))
    simp only [storeCells, Sem.run_bind, hst, Result.andThen_ok, ih, setRow_setRow, putAt, Nat.add_assoc]
theorem run_storeVar_at (w : World) (g o : Nat) (t ty : TypeId) (old cells : Array Value) (hg : w.heap[g]? = some (.cells old t (0, 0))) (hi : (P.info? ty).map (·.size) = some cells.size)
    (ho : o + cells.size ≤ old.size) (h1 : cells.toList.all (·.oneCell') = true) :
    (storeVar ty ⟨g, o, none⟩ (.agg cells)).run P w = .ok () (w.setRow g (putAt old o cells.toList)) := by
  have := run_storeCells_at (P := P) g o t cells.toList 0 old w hg (by simp; omega) (fun v hv => (List.all_eq_true.1 h1) v hv)
  cases hq : P.info? ty with
  | none => simp [hq] at hi
  | some i =>
    have hs : cells.size = i.size := by simp [hq] at hi; omega
    simp [storeVar, sizeOf, typeInfo, hq, Value.cells, hs, this]
theorem wpList_store_at {ops : Array Oper} {rest : List Oper} {o : Oper} {a : Act} {w : World} {Q : Exit → Act → World → Prop} (hw : Region.wanted o (yielded ops a.tmps) = true) (ty : TypeId) (x y : Operand) (ho : o.op = .store ty x y)
    (g off : Nat) (cells : Array Value) (hx : a.eval x = .pointer (some ⟨g, off, none⟩)) (hy : a.eval y = .agg cells)
    (t : TypeId) (old new : Array Value) (hg : w.heap[g]? = some (.cells old t (0, 0))) (hi : (P.info? ty).map (·.size) = some cells.size)
    (n k : Nat) (hn : old.size = n) (hk : cells.size = k) (hnk : off + k ≤ n) (h1 : cells.toList.all (·.oneCell') = true) (hnew : old.toList.take off ++ (cells.toList ++ old.toList.drop (off + cells.size)) = new.toList)
    (h : wpList P ops Q rest (a.put o.dst undef) (w.setRow g new)) : wpList P ops Q (o :: rest) a w :=
  wpList_step fun K hK => by
    have hold : off + cells.size ≤ old.size := by rw [hn, hk]; exact hnk
    have hnew' : putAt old off cells.toList = new := by
      have := putAt_list cells.toList off old (by simpa using hold)
      rw [Array.length_toList, hnew] at this
      exact Array.toList_inj.1 this
    rw [if_pos hw]
    unfold Oper.wp execOp
    simp only [ho, hx, hy, Instr.storeAt, Instr.sureAddr, Sem.run_bind, Sem.run_pure, Result.andThen_ok, run_storeVar_at w g off t ty old cells hg hi hold h1, hnew']
    exact hK _ _ h
theorem run_loadVar_at (w : World) (g o : Nat) (t ty : TypeId) (cs sub : Array Value) (fr : Nat × Nat) (d : TypeDesc) (hg : w.heap[g]? = some (.cells cs t fr))
    (hu : P.underlying ty = some d) (hd : (match d with | .struct _ | .array _ _ => true | _ => false) = true) (hi : (P.info? ty).map (·.size) = some sub.size) (hsub : (cs.toList.drop o).take sub.size = sub.toList) :
    (loadVar ty ⟨g, o, none⟩).run P w = .ok (.agg sub) w := by
  have hl : (loadCells ⟨g, o, none⟩ sub.toList.length).run P w = .ok sub.toList.toArray w :=
    run_loadCells_list (P := P) w ⟨g, o, none⟩ sub.toList (fun j v hv => by
      rw [add_at, cell_of_row w g (o + j) cs t fr hg]
      have hj : j < sub.size := by simpa using (List.getElem?_eq_some_iff.1 hv).1
      rw [← hsub, List.getElem?_take, if_pos hj, List.getElem?_drop] at hv
      simpa using hv)
  cases hq : P.info? ty with
  | none => simp [hq] at hi
  | some i =>
    have hs : i.size = sub.size := by simpa [hq] using hi
    have hagg : (isAgg ty).run P w = .ok true w := by
      unfold isAgg
      rw [Sem.run_bind, run_underlying hu w]
      cases d <;> simp_all
    simp only [Array.length_toList, Array.toArray_toList] at hl
    simp [loadVar, Sem.run_bind, hagg, sizeOf, typeInfo, hq, hs, hl]
theorem wpList_load_at {ops : Array Oper} {rest : List Oper} {o : Oper} {a : Act} {w : World} {Q : Exit → Act → World → Prop} (hw : Region.wanted o (yielded ops a.tmps) = true) (ty : TypeId) (x : Operand) (ho : o.op = .load ty x)
    (g off : Nat) (hx : a.eval x = .pointer (some ⟨g, off, none⟩)) (t : TypeId) (cs sub : Array Value) (fr : Nat × Nat) (d : TypeDesc) (hg : w.heap[g]? = some (.cells cs t fr))
    (hu : P.underlying ty = some d) (hd : (match d with | .struct _ | .array _ _ => true | _ => false) = true) (hi : (P.info? ty).map (·.size) = some sub.size) (hsub : (cs.toList.drop off).take sub.size = sub.toList)
    (h : wpList P ops Q rest (a.put o.dst (.agg sub)) w) : wpList P ops Q (o :: rest) a w :=
  wpList_step fun K hK => by
    rw [if_pos hw]
    unfold Oper.wp execOp
    simp only [ho, hx, Instr.loadAt, Instr.sureAddr, Sem.run_bind, Sem.run_pure, Result.andThen_ok, run_loadVar_at w g off t ty cs sub fr d hg hu hd hi hsub]
    exact hK _ _ h
end
theorem Bl.setRow {w : World} {g : Nat} {t : TypeId} {cs : Array Value} (h : Bl w g t cs) (cs' : Array Value) : Bl (w.setRow g cs') g t cs' := setRow_heap w g cs cs' t (0, 0) h
theorem Bl.farRow {w : World} {g k : Nat} {t : TypeId} {cs : Array Value} (h : Bl w g t cs) (hk : g ≠ k) (cs' : Array Value) : Bl (w.setRow k cs') g t cs := (setRow_other w k g cs' hk).trans h
theorem Fr.setRow {S : Nat → Prop} {w w' : World} {g : Nat} (h : Fr S w w') (hp : S g ∨ w.heap.size ≤ g) (cs : Array Value) : Fr S w (w'.setRow g cs) :=
  ⟨h.os, h.tape, h.output, by rw [setRow_size]; exact h.size, fun k hk hs => (setRow_other w' g k cs (fun e => by subst e; rcases hp with hp | hp; exact hs hp; omega)).trans (h.block k hk hs)⟩
theorem Fr.row {w : World} {g : Nat} (cs : Array Value) : Fr (fun x => x = g) w (w.setRow g cs) := Fr.setRow (S := fun x => x = g) (Fr.refl _ w) (.inl rfl) cs
theorem setRow_alloc2 (w : World) (o : Obj) (c c' : Array Value) (t : TypeId) : ((w.alloc o).alloc (.cells c t)).setRow (w.heap.size + 1) c' = (w.alloc o).alloc (.cells c' t) := by
  have := World.setRow_alloc_new (w.alloc o) c c' t
  rwa [show (w.alloc o).heap.size = w.heap.size + 1 by simp] at this
end Go.Proofs.Ytlcjhbemgagchaa
end

section
/-
  items, Items of both.
-/
namespace Go.Proofs.Ytlcjhbemgagchaa
open Go.RowKit
set_option linter.unusedVariables false
attribute [local go_sem ↓] Go.wp_at_zero Go.wp_at_succ
theorem infoI : (Try.prog.info? 3).map (fun i => (i.zero, i.size, i.bytes)) = some (some (.int .i64 0), 1, 8) := by kernel_rfl

/-- All items from a place on: those that are right (from, to), then what is wrong first, and where. -/
def itemsS (bs : List Nat) (a : Nat) : List GF × Nat × Int :=
  if h : a < bs.length then
    match pieceS bs a with
    | .inr (p, e) => ([], p, e)
    | .inl (f, t) => if h2 : a < t then
        let r := itemsS bs t
        (⟨0, 0, f, t⟩ :: r.1, r.2)
      else ([], 0, 0)
  else ([], 0, 0)
termination_by bs.length - a
decreasing_by omega
theorem itemsS_end {bs : List Nat} {a : Nat} (h : ¬ a < bs.length) : itemsS bs a = ([], 0, 0) := by rw [itemsS, dif_neg h]
theorem itemsS_bad {bs : List Nat} {a p : Nat} {e : Int} (h : a < bs.length) (hs : pieceS bs a = .inr (p, e)) : itemsS bs a = ([], p, e) := by rw [itemsS, dif_pos h, hs]
theorem itemsS_one {bs : List Nat} {a f t : Nat} (h : a < bs.length) (hs : pieceS bs a = .inl (f, t)) (h2 : a < t) : itemsS bs a = (⟨0, 0, f, t⟩ :: (itemsS bs t).1, (itemsS bs t).2) := by
  rw [itemsS, dif_pos h, hs]; simp only [dif_pos h2]
theorem itemsS_place (bs : List Nat) (a : Nat) (h : (itemsS bs a).2.2 = 0) : (itemsS bs a).2.1 = 0 := by
  by_cases ha : a < bs.length
  · rcases hs : pieceS bs a with ⟨f, t⟩ | ⟨p, e⟩
    · by_cases h2 : a < t
      · rw [itemsS_one ha hs h2] at h ⊢
        exact itemsS_place bs t h
      · rw [itemsS, dif_pos ha, hs]; simp only [dif_neg h2]
    · rw [itemsS_bad ha hs] at h
      exact absurd h (pieceS_bad hs).1
  · rw [itemsS_end ha]
termination_by bs.length - a
theorem itemsS_len (bs : List Nat) (a : Nat) : (itemsS bs a).1.length ≤ bs.length - a := by
  by_cases ha : a < bs.length
  · rcases hs : pieceS bs a with ⟨f, t⟩ | ⟨p, e⟩
    · by_cases h2 : a < t
      · rw [itemsS_one ha hs h2]
        have := itemsS_len bs t
        simp only [List.length_cons]; omega
      · rw [itemsS, dif_pos ha, hs]; simp only [dif_neg h2]; simp
    · rw [itemsS_bad ha hs]; simp
  · rw [itemsS_end ha]; simp
termination_by bs.length - a
theorem itemsS_at (bs : List Nat) (a : Nat) : ∀ F ∈ (itemsS bs a).1, F.from_ ≤ F.to_ ∧ F.to_ ≤ bs.length := by
  by_cases ha : a < bs.length
  · rcases hs : pieceS bs a with ⟨f, t⟩ | ⟨p, e⟩
    · by_cases h2 : a < t
      · rw [itemsS_one ha hs h2]
        intro F hF
        rcases List.mem_cons.1 hF with rfl | hF
        · exact (pieceS_ok hs).2
        · exact itemsS_at bs t F hF
      · rw [itemsS, dif_pos ha, hs]; simp only [dif_neg h2]; simp
    · rw [itemsS_bad ha hs]; simp
  · rw [itemsS_end ha]; simp
termination_by bs.length - a
/-- What Items answers: the items (none beside an error), the place, the error. -/
def itemsAll (bs : List Nat) : List GF × Nat × Int :=
  if bs.length = 0 then ([], 0, 20) else if (itemsS bs 0).2.2 = 0 then itemsS bs 0 else ([], (itemsS bs 0).2)
theorem itemsAll_place {bs : List Nat} (h : (itemsAll bs).2.2 = 0) : (itemsAll bs).2.1 = 0 := by
  unfold itemsAll at h ⊢
  split at h
  · simp at h
  · rename_i hb
    rw [if_neg hb]
    split at h
    · rename_i h0; rw [if_pos h0]; exact itemsS_place _ _ h0
    · rename_i h0; exact absurd h h0
theorem itemsAll_none {bs : List Nat} (h : ¬ (itemsAll bs).2.2 = 0) : (itemsAll bs).1 = [] := by
  unfold itemsAll at h ⊢
  split at h
  · rename_i hb; rw [if_pos hb]
  · rename_i hb
    rw [if_neg hb]
    split at h
    · rename_i h0; exact absurd h0 h
    · rename_i h0; rw [if_neg h0]
theorem itemsAll_bad {bs : List Nat} {fs : List GF} {p : Nat} {er : Int} (hl : ¬ bs.length = 0) (h : itemsS bs 0 = (fs, p, er)) (he : er ≠ 0) : itemsAll bs = ([], p, er) := by
  rw [itemsAll, if_neg hl, h, if_neg he]
theorem itemsAll_ok {bs : List Nat} {fs : List GF} {p : Nat} (hl : ¬ bs.length = 0) (h : itemsS bs 0 = (fs, p, 0)) : itemsAll bs = (fs, p, 0) := by
  rw [itemsAll, if_neg hl, h, if_pos rfl]
theorem itemsAll_len (bs : List Nat) : (itemsAll bs).1.length ≤ bs.length := by
  unfold itemsAll
  split
  · simp
  · split
    · have := itemsS_len bs 0; omega
    · simp
theorem itemsAll_at (bs : List Nat) : ∀ F ∈ (itemsAll bs).1, F.from_ ≤ F.to_ ∧ F.to_ ≤ bs.length := by
  unfold itemsAll
  split
  · simp
  · split
    · exact itemsS_at bs 0
    · simp

/-- Behind items (tlv): the parts, in the bytes' own block b. -/
def ItemsPost (bs : List Nat) (b : Nat) (w : World) (e : Ending) (w' : World) : Prop :=
  ∃ (ps : List PT) (L : Option Addr) (k c : Nat) (g : Option Nat), e = .returned (.tuple #[.slice L k c, .int .i64 ((itemsAll bs).2.1 : Int), .int .i64 (itemsAll bs).2.2]) ∧ ps.map (·.2.1) = (itemsAll bs).1 ∧
    Ow w' 189 1 L k c (ps.map fun x => ptr x.1) g ∧ (∀ b, g = some b → w.heap.size ≤ b) ∧ PartsIn w' bs b w.heap.size ps ∧ Fr (fun _ => False) w w'
theorem ItemsPost.bad {bs : List Nat} {b : Nat} {w w' : World} {p : Nat} {er : Int} (h : itemsAll bs = ([], p, er)) (hf : Fr (fun _ => False) w w') : ItemsPost bs b w (.returned (.tuple #[.slice none 0 0, .int .i64 (p : Int), .int .i64 er])) w' :=
  ⟨[], none, 0, 0, none, by rw [h], by rw [h]; rfl, Ow.nil_ _ _ _, (fun b h => by cases h), ⟨(fun x h => by cases h), (fun x h => by cases h), List.Pairwise.nil⟩, hf⟩

set_option maxHeartbeats 4000000 in
set_option maxRecDepth 100000 in
theorem titems_any (w : World) (xs : List Nat) (A : Option Addr) (n c : Nat) (hn : n ≤ 1099511627776) (hc : n ≤ c) (hc2 : c ≤ 9223372036854775807) (hl : n = xs.length) (h256 : ∀ x ∈ xs, x < 256) (hA : Sl w 1 A n (xs.map bn)) :
    Calls Try.prog 142 #[.slice A n c] w fun e w' => ∃ b, (∀ b' o, A = some ⟨b', o, none⟩ → b = b') ∧ ItemsPost xs b w e w' := by
  obtain ⟨j0, hj, hj0, hj1, hj2⟩ := info_parts infoP
  have Hl := hide hl
  clear hl
  by_cases h0 : n = 0
  · subst h0
    have hg : Hid (itemsAll xs = ([], 0, 20)) := by show _ = _; rw [itemsAll, if_pos Hl.out.symm]
    go_enter Try.func142, Try.ntmps142
    go_wp2_with fail
    go_ret3
    cases A with
    | none => exact ⟨0, (fun b' o h => by cases h), ItemsPost.bad (p := 0) (er := 20) hg.out (Fr.refl _ _)⟩
    | some a => exact ⟨a.block, (fun b' o h => by cases h; rfl), ItemsPost.bad (p := 0) (er := 20) hg.out (Fr.refl _ _)⟩
  obtain ⟨b, o, rfl, _⟩ := hA.2 (by omega)
  refine Calls.mono (R := ItemsPost xs b w) ?_ fun e w' h => ⟨b, (fun b' o h => by cases h; rfl), h⟩
  have hbl := hA.lt b o rfl (by omega)
  have Hne : Hid (¬ xs.length = 0) := by show ¬ _; rw [← Hl.out]; exact h0
  have h1 : ((n : Int) == 0) = false := by simp; omega
  go_enter Try.func142, Try.ntmps142
  go_wp2_with fail
  go_loopw [5, 6] (fun u i wr => ∃ (a : Nat) (ps : List PT) (L : Option Addr) (k cl : Nat) (g : Option Nat), u = .slice L k cl ∧ i = .int .i64 (a : Int) ∧ a ≤ n ∧ k ≤ a ∧
    Hid (itemsS xs 0 = (ps.map (·.2.1) ++ (itemsS xs a).1, (itemsS xs a).2)) ∧ Ow wr 189 1 L k cl (ps.map fun x => ptr x.1) g ∧ (∀ b, g = some b → w.heap.size ≤ b) ∧ PartsIn wr xs b w.heap.size ps ∧ Fr (fun _ => False) w wr) (fun _ i _ => n - (intOf i).toNat)
  case atStart => exact ⟨0, [], none, 0, 0, none, rfl, rfl, by omega, by omega, by show _ = _; simp, Ow.nil_ _ _ _, (fun b h => by cases h), ⟨(fun x h => by cases h), (fun x h => by cases h), List.Pairwise.nil⟩, Fr.refl _ _⟩
  case round =>
    obtain ⟨a, ps, L, k, cl, g, rfl, rfl, ha, hka, hG, hO, hg, hP, hf⟩ := hrel
    by_cases hlt : a < n
    · have hal : a < xs.length := by rw [← Hl.out]; exact hlt
      have hS := hA.below hf (fun _ _ => id)
      go_wp2_with fail
      refine (piece_at _ xs b o n c a _ rfl (by omega) hc hc2 Hl.out (by omega) h256 hS).mono ?_
      rintro e w' ⟨hp | hp, rfl⟩
      · obtain ⟨p, er, hp, rfl⟩ := hp
        have he0 := (pieceS_bad hp).1
        have he := hide (itemsAll_bad Hne.out ((hG.out.trans (by rw [itemsS_bad hal hp])) : itemsS xs 0 = (_, p, er)) he0)
        clear hp
        go_wp2_with fail
        go_ret3
        exact ItemsPost.bad he.out hf
      · obtain ⟨f, t, o', hp, rfl, ho⟩ := hp
        obtain ⟨f1, f2, f3⟩ := pieceS_ok hp
        have hstep : Hid (itemsS xs a = (⟨0, 0, f, t⟩ :: (itemsS xs t).1, (itemsS xs t).2)) := itemsS_one hal hp (by omega)
        obtain ⟨m, rfl⟩ : ∃ m, t = f + m := ⟨t - f, by omega⟩
        have f4 : f + m ≤ n := by rw [Hl.out]; exact f3
        have w2 : IntKind.i64.wrap ((f : Int) + m - m) = f := by rw [show (f : Int) + m - m = f by omega]; exact IntWalk.i64_in _ (by omega)
        have w3 : IntKind.i64.wrap (f : Int) = f := IntWalk.i64_in _ (by omega)
        have hval : Sl wr 1 (some ⟨b, o', none⟩) m ((((xs.drop f).take (f + m - f))).map bn) := by
          rw [Nat.add_sub_cancel_left]
          by_cases hm : m = 0
          · subst hm; exact ⟨by simp, fun h => absurd h (by omega)⟩
          · obtain rfl := ho (by omega)
            have := hS.part (f := f) (t := f + m) (by omega) f4
            rw [← List.map_drop, ← List.map_take] at this
            rwa [Nat.add_sub_cancel_left] at this
        rw [Nat.add_sub_cancel_left]
        have hB0 := Bl.new wr 192 #[.int .i64 0, .int .i64 0, .int .i64 f, .slice (some ⟨b, o', none⟩) m m, .bool false]
        clear hp ho
        go_wp2_with (first | (at_builtin; refine wpList_append_ow _ rfl _ _ 195 rfl 189 j0 (.pointer none) 1 8 Try.underlying195 hj hj0 hj1 hj2 rfl (by decide) _ _ _ _ _ rfl (hO.fr (((Fr.refl (fun _ => False) _).alloc _).alloc _) (fun _ _ => id)) _ _ _ [ptr wr.heap.size] rfl (Sl.oneAt (by simp)) (by intro u hu; simp at hu; subst hu; rfl) (by unfold maxLen; omega) (by omega) ?_) | go_in)
        intro L2 cl2 w2 g2 hO2 hf2 hg2
        have hB2 := ((hB0.alloc (.cells #[.pointer (some ⟨wr.heap.size, 0, none⟩)] 189)).fr hf2 (fun e => by have := hO.lt _ e.symm; omega))
        have hfa : Fr (fun y => some y = g) wr w2 := (((Fr.refl _ _).alloc _).alloc _).comp hf2 (fun _ _ e => e)
        have hgb : ¬ some b = g := fun e => by have := hg b e.symm; omega
        have hpg : ∀ y ∈ ps, ¬ some y.1 = g := fun y hy e => by
          have h := (hP.at_ y hy).bl
          rw [← e] at hO
          exact hO.neBl h (by decide) rfl
        have hplt : ∀ y ∈ ps, y.1 < wr.heap.size := fun y hy => (hP.at_ y hy).bl.lt
        have Hf3 := hide f3
        have Hpg := hide hpg
        have hsz := hf.size
        have Hf := hide hfa
        clear hfa hpg f3
        go_wp2_with fail
        refine ⟨⟨f + m, ps ++ [(wr.heap.size, ⟨0, 0, f, f + m⟩, o')], L2, k + 1, cl2, g2, rfl, by simp, f4, by omega, ?_, by simpa [ptr] using hO2, ?_, ⟨?_, ?_, ?_⟩, ?_⟩, by simp [intOf]; omega⟩
        · show _ = _
          rw [hG.out, hstep.out]
          simp
        · intro y e
          rcases hg2 with h | ⟨b', h, hb'⟩
          · exact hg y (h ▸ e)
          · rw [h] at e; cases e
            first | omega | (simp at hb'; omega)
        · intro y hy
          rcases List.mem_append.1 hy with hy | hy
          · exact (hP.at_ y hy).fr Hf.out (Hpg.out y hy) hgb
          · simp at hy; subst hy
            refine ⟨?_, ?_, by show f ≤ f + m; omega, Hf3.out⟩
            · show Bl w2 _ _ #[.int .i64 0, .int .i64 0, .int .i64 f, .slice (some ⟨b, o', none⟩) (f + m - f) (f + m - f), .bool false]
              rw [Nat.add_sub_cancel_left]; exact hB2
            · show Sl w2 1 _ (f + m - f) _
              rw [Nat.add_sub_cancel_left]
              exact hval.fr (B := 0) Hf.out fun k ⟨o', e⟩ _ => by cases e; exact hgb
        · intro y hy
          rcases List.mem_append.1 hy with hy | hy
          · exact hP.new y hy
          · simp at hy; subst hy; exact hsz
        · rw [List.pairwise_append]
          refine ⟨hP.ord, by simp, fun y hy z hz => ?_⟩
          simp at hz; subst hz; exact hplt y hy
        · exact hf.comp Hf.out fun y hy e => by have := hg y e.symm; omega
    · obtain rfl : a = n := by omega
      have he := hide (itemsAll_ok Hne.out ((hG.out.trans (by rw [itemsS_end (by rw [← Hl.out]; omega), List.append_nil])) : itemsS xs 0 = (_, 0, 0)))
      clear hlt
      go_wp2_with fail
      go_ret3
      exact ⟨ps, L, k, cl, g, by rw [he.out]; rfl, by rw [he.out], hO, hg, hP, hf⟩
end Go.Proofs.Ytlcjhbemgagchaa
end
