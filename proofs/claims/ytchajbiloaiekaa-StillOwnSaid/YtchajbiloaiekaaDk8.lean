/-
  disk: what Crash's steps are: arrays compared, min and max, copy.
-/
import Derived.Test.YtchajbiloaiekaaDk7
import Derived.ChangeKeysEq
import Derived.Laws.IdiomCopy
namespace Go.Proofs.Ytchajbiloaiekaa
open Go.RowKit
set_option linter.unusedVariables false
set_option linter.unusedSimpArgs false
/-! Arrays compared. -/
theorem part_u8 {xs : List Nat} {i : Nat} (hi : i < xs.length) (w : World) : (part 5 (xs.map bn).toArray (i * Try.prog.cellsOf 5)).run Try.prog w = .ok (bn (xs.getD i 0)) w := by
  have hc : Try.prog.cellsOf 5 = 1 := by kernel_rfl
  rw [hc, Nat.mul_one]
  refine run_part_plain w (by kernel_rfl) ?_
  rw [List.getElem?_toArray, bn_get hi]; rfl
theorem items_eq (xs ys : List Nat) (w : World) : ∀ is : List Nat, (∀ i ∈ is, i < xs.length ∧ i < ys.length) →
    (Op.eqItems 9999 5 (Try.prog.cellsOf 5) (xs.map bn).toArray (ys.map bn).toArray is).run Try.prog w = .ok (is.all fun i => xs.getD i 0 == ys.getD i 0) w
  | [], _ => rfl
  | i :: is, h => by
    obtain ⟨h1, h2⟩ := h i (List.mem_cons_self ..)
    have ih := items_eq xs ys w is (fun j hj => h j (List.mem_cons_of_mem _ hj))
    have he : (Op.equalIn 9999 5 (bn (xs.getD i 0)) (bn (ys.getD i 0))).run Try.prog w = .ok (xs.getD i 0 == ys.getD i 0) w := by
      have := run_equalIn_int (P := Try.prog) w 9998 5 .u8 .u8 (xs.getD i 0 : Int) (ys.getD i 0 : Int) Try.underlying5
      unfold bn
      rw [this]
      congr 1
      rw [Bool.eq_iff_iff]; simp; omega
    simp only [Op.eqItems, Sem.run_bind, part_u8 h1, part_u8 h2, he, Result.andThen_ok, List.all_cons]
    by_cases q : xs.getD i 0 = ys.getD i 0
    · have : (xs.getD i 0 == ys.getD i 0) = true := by simpa using q
      rw [this]; simpa using ih
    · have : (xs.getD i 0 == ys.getD i 0) = false := by simpa using q
      rw [this]; simp
theorem all_eq (xs ys : List Nat) (hx : xs.length = 64) (hy : ys.length = 64) : ((List.range 64).all fun i => xs.getD i 0 == ys.getD i 0) = decide (xs = ys) := by
  rw [Bool.eq_iff_iff]
  simp only [List.all_eq_true, List.mem_range, beq_iff_eq, decide_eq_true_eq]
  constructor
  · intro h
    apply List.ext_getElem (by omega)
    intro i h1 h2
    have := h i (by omega)
    simpa [List.getD, h1, h2] using this
  · rintro rfl i _; rfl
theorem sec_eq (w : World) (xs ys : List Nat) (hx : xs.length = 64) (hy : ys.length = 64) : (Op.equalIn 10000 67 (.agg (xs.map bn).toArray) (.agg (ys.map bn).toArray)).run Try.prog w = .ok (decide (xs = ys)) w := by
  obtain ⟨i, hi, -⟩ := info_parts infoU8
  rw [run_equalIn_array w 9999 _ _ Try.underlying67 hi, items_eq xs ys w _ (fun i hi => by rw [List.mem_range] at hi; omega), all_eq xs ys hx hy]
/-! min and max. -/
def lowI (a b : Int) : Int := if b < a then b else a
def highI (a b : Int) : Int := if a < b then b else a
def minIn (P : Program) (ts : Array TypeId) (ty : TypeId) (x y : Value) (w : World) : Result Value := (Builtin.min_ ts ty #[x, y]).run P w
def maxIn (P : Program) (ts : Array TypeId) (ty : TypeId) (x y : Value) (w : World) : Result Value := (Builtin.max_ ts ty #[x, y]).run P w
theorem minIn_eq {P : Program} {ts : Array TypeId} {ty : TypeId} {k : IntKind} {a b : Int} {w : World} : minIn P ts ty (.int k a) (.int k b) w = .ok (.int k (lowI a b)) w := by
  simp [minIn, Builtin.min_, Builtin.min2, lowI]
theorem maxIn_eq {P : Program} {ts : Array TypeId} {ty : TypeId} {k : IntKind} {a b : Int} {w : World} : maxIn P ts ty (.int k a) (.int k b) w = .ok (.int k (highI a b)) w := by
  simp [maxIn, Builtin.max_, Builtin.max2, highI]
theorem opstill_min {P : Program} {a : Act} {w : World} {K : Act → Prop} {dd : Option Tmp} {x y : Operand} {ts : Array TypeId} {ty : TypeId} {ps : String} {af : Array Edge} {gu : Option (Nat × Bool)} :
    Oper.still P { dst := dd, op := .call { callee := .builtin .min, args := #[x, y], argTypes := ts }, type := ty, pos := ps, after := af, guard := gu } a w K = Oper.stillUpon P { dst := dd, op := .call { callee := .builtin .min, args := #[x, y], argTypes := ts }, type := ty, pos := ps, after := af, guard := gu } a w K ((minIn P ts ty (a.eval x) (a.eval y) w).andThen fun v w => .ok (.value v) w) := by
  unfold Oper.still minIn
  simp only [execOp, resolve, invoke, builtin, Sem.run_bind, Sem.run_pure, Result.andThen_ok, List.map_toArray, List.map_cons, List.map_nil]
theorem opstill_max {P : Program} {a : Act} {w : World} {K : Act → Prop} {dd : Option Tmp} {x y : Operand} {ts : Array TypeId} {ty : TypeId} {ps : String} {af : Array Edge} {gu : Option (Nat × Bool)} :
    Oper.still P { dst := dd, op := .call { callee := .builtin .max, args := #[x, y], argTypes := ts }, type := ty, pos := ps, after := af, guard := gu } a w K = Oper.stillUpon P { dst := dd, op := .call { callee := .builtin .max, args := #[x, y], argTypes := ts }, type := ty, pos := ps, after := af, guard := gu } a w K ((maxIn P ts ty (a.eval x) (a.eval y) w).andThen fun v w => .ok (.value v) w) := by
  unfold Oper.still maxIn
  simp only [execOp, resolve, invoke, builtin, Sem.run_bind, Sem.run_pure, Result.andThen_ok, List.map_toArray, List.map_cons, List.map_nil]
/-! copy. -/
theorem wpList_copy_into {P : Program} {w : World} {ops : Array Oper} {rest : List Oper} {o : Oper} {a : Act} {Q : Exit → Act → World → Prop} (hgd : o.guard = none) (d s : Operand) (dT sT : TypeId)
    (hop : o.op = .call { callee := .builtin .copy, args := #[d, s], argTypes := #[dT, sT] }) (elem : TypeId) (hu : P.underlying dT = some (.slice elem)) (hs : (P.info? elem).map (·.size) = some 1)
    (b off dLen dCap : Nat) (hd : a.eval d = .slice (some ⟨b, off, none⟩) dLen dCap) (ad : Addr) (sLen sCap : Nat) (hsv : a.eval s = .slice (some ad) sLen sCap) (cs : List Value) (hn : cs.length = Nat.min sLen dLen)
    (hsrc : ∀ j v, cs[j]? = some v → w.cell? (ad.add j) = some v) (hth : w.there b off cs.length) (h1 : ∀ v ∈ cs, v.oneCell' = true)
    (h : wpList P ops Q rest (a.put o.dst (goInt cs.length)) (w.setCells b off cs)) : wpList P ops Q (o :: rest) a w := by
  refine wpList_plain hgd fun K hK => ?_
  have hrun := run_copy_cells (P := P) w dT sT o.type elem b off dLen dCap ad sLen sCap cs hu hs hn hsrc (fun j hj => (hth j hj).1) (fun j hj => (hth j hj).2) h1
  unfold Oper.wp execOp
  simp only [hop, resolve, invoke, builtin, Sem.run_bind, Sem.run_pure, Result.andThen_ok, List.map_toArray, List.map_cons, List.map_nil, hd, hsv, hrun]
  exact hK _ _ h
/-- A block's beginning is written over. -/
theorem bl_setCells {w : World} {b : Nat} {t : TypeId} {zs cs : List Value} (hb : Bl w b t zs.toArray) (h : cs.length ≤ zs.length) : Bl (w.setCells b 0 cs) b t (cs ++ zs.drop cs.length).toArray := by
  obtain ⟨cur, a1, a2, a3, a4⟩ := heap_setCells b cs 0 w zs.toArray t hb (fun _ _ => trivial)
  have : cur = (cs ++ zs.drop cs.length).toArray := by
    apply Array.ext_getElem?
    intro i
    have e1 : (cs ++ zs.drop cs.length).toArray[i]? = (cs ++ zs.drop cs.length)[i]? := List.getElem?_toArray ..
    have e2 : zs.toArray[i]? = zs[i]? := List.getElem?_toArray ..
    rw [e1]
    by_cases hi : i < cs.length
    · have := a4 (by simpa using h) i _ (List.getElem?_eq_getElem hi)
      rw [Nat.zero_add] at this
      rw [this, List.getElem?_append_left hi, List.getElem?_eq_getElem hi]
    · rw [a3 i (.inr (by omega)), e2, List.getElem?_append_right (by omega), List.getElem?_drop, show cs.length + (i - cs.length) = i by omega]
  rw [this] at a1
  exact a1
/-! What a crash makes of the sectors. -/
def clampN (cut : Int) : Nat := (highI 0 (lowI cut 64)).toNat
theorem clamp_eq (cut : Int) : highI 0 (lowI cut 64) = (clampN cut : Int) ∧ clampN cut ≤ 64 := by
  unfold clampN highI lowI
  split <;> split <;> omega
def torn (sf : List Nat) (k : Nat) (d : List Nat) (c : Nat) : List Nat := putSec sf k (d.take c ++ ((sf.drop (k * 64)).take 64).drop c)
def crash1 (keep : List Bool) (tn cut : Int) (sf : List Nat) (i : Nat) (r : Nat × List Nat) : List Nat :=
  if (i : Int) = tn then torn sf r.1 r.2 (clampN cut) else if keep.getD i false = true then putSec sf r.1 r.2 else sf
def crashTo (keep : List Bool) (tn cut : Int) (sf : List Nat) (row : List (Nat × List Nat)) : Nat → List Nat
  | 0 => sf
  | j + 1 => crash1 keep tn cut (crashTo keep tn cut sf row j) j (row.getD j (0, []))
theorem torn_len {sf : List Nat} {k n c : Nat} {d : List Nat} (h : sf.length = n * 64) (hk : k < n) (hd : d.length = 64) (hc : c ≤ 64) : (torn sf k d c).length = n * 64 := by
  refine putSec_len h hk ?_
  have hh := Nat.mul_le_mul_right 64 (show k + 1 ≤ n by omega)
  rw [List.length_append, List.length_take, List.length_drop, List.length_take, List.length_drop]
  omega
theorem crashTo_len {n : Nat} {keep : List Bool} {tn cut : Int} {sf : List Nat} {row : List (Nat × List Nat)} (h : sf.length = n * 64) (hr : ∀ r ∈ row, r.1 < n ∧ r.2.length = 64) : ∀ j, j ≤ row.length → (crashTo keep tn cut sf row j).length = n * 64
  | 0, _ => h
  | j + 1, hj => by
    have ih := crashTo_len (keep := keep) (tn := tn) (cut := cut) h hr j (by omega)
    have hm : row.getD j (0, []) ∈ row := by
      rw [List.getD_eq_getElem?_getD, List.getElem?_eq_getElem (by omega)]
      exact List.getElem_mem ..
    obtain ⟨q1, q2⟩ := hr _ hm
    show (crash1 keep tn cut _ j _).length = _
    unfold crash1
    split
    · exact torn_len ih q1 q2 (clamp_eq cut).2
    · split
      · exact putSec_len ih q1 q2
      · exact ih
def DS.crash (s : DS) (keep : List Bool) (tn cut : Int) : DS := { s with sf := crashTo keep tn cut s.sf s.row s.row.length, row := [], fuse := -1 }
#print axioms sec_eq
end Go.Proofs.Ytchajbiloaiekaa
