/-
  Loads and stores of whole things, taken by the walk as they are: loadIn, storeIn.
-/
import Derived.Test.YtanfhmebjgmdpaaRq0
import Derived.Test.YtanfhmebjgmdpaaRows
import Derived.WalkLawsBesides
import Derived.WalkSpells
import Derived.Deep.QuietTactic
import Derived.BigQuiet
import Derived.Deep.RegionHeld3
import Derived.Deep.DeepCutAuto
import Derived.Deep.DrawnRows
namespace Go.Proofs.Ytanfhmebjgmdpaa
open Go.RowKit
set_option linter.unusedVariables false
def loadIn (P : Program) (t : TypeId) (v : Value) (w : World) : Result Value := (Instr.loadAt t v).run P w
def storeIn (P : Program) (t : TypeId) (v x : Value) (w : World) : Result Unit := (Instr.storeAt t v x).run P w
theorem opwp_load {P : Program} (t : TypeId) {a : Act} {w : World} {K : Act → World → Prop} {Q : Exit → Act → World → Prop} {dd : Option Tmp} {x : Operand} {ty : TypeId} {ps : String} {af : Array Edge} {gu : Option (Nat × Bool)} :
    Oper.wp P { dst := dd, op := .load t x, type := ty, pos := ps, after := af, guard := gu } a w K Q = Oper.upon P { dst := dd, op := .load t x, type := ty, pos := ps, after := af, guard := gu } a K Q ((loadIn P t (a.eval x) w).andThen fun v w => .ok (.value v) w) := by
  unfold Oper.wp loadIn
  simp only [execOp, Sem.run_bind, Sem.run_pure]
theorem opwp_store {P : Program} (t : TypeId) {a : Act} {w : World} {K : Act → World → Prop} {Q : Exit → Act → World → Prop} {dd : Option Tmp} {y x : Operand} {ty : TypeId} {ps : String} {af : Array Edge} {gu : Option (Nat × Bool)} :
    Oper.wp P { dst := dd, op := .store t y x, type := ty, pos := ps, after := af, guard := gu } a w K Q = Oper.upon P { dst := dd, op := .store t y x, type := ty, pos := ps, after := af, guard := gu } a K Q ((storeIn P t (a.eval y) (a.eval x) w).andThen fun _ w => .ok .skip w) := by
  unfold Oper.wp storeIn
  simp only [execOp, Sem.run_bind, Sem.run_pure]
theorem run_loadAt_cell {P : Program} (ty : TypeId) (d : TypeDesc) (hu : P.underlying ty = some d) (hd : (match d with | .struct _ | .array _ _ => true | _ => false) = false) {w : World} {a : Addr} {v : Value} (h : w.cell? a = some v) :
    (Instr.loadAt ty (.pointer (some a))).run P w = .ok v w := by
  have h1 : (isAgg ty).run P w = .ok false w := by
    unfold isAgg
    rw [Sem.run_bind, run_underlying hu w]
    cases d <;> simp_all
  simp [go_sem, Instr.loadAt, Instr.sureAddr, Sem.run_bind, loadVar, h1, h]
theorem quiet_ex {P : Program} {f : FuncId} {args : Array Value} {w : World} {n : Nat} {v : Value}
    (h : Calls P f args (w.drewN n) fun e w' => e = .returned v ∧ ∃ m, w' = (w.drewN n).drewN m) : Calls P f args (w.drewN n) fun e w'' => e = .returned v ∧ ∃ m, w'' = w.drewN m := Calls.quiet_of h
theorem modc (a n : Nat) : ((a : Int)).tmod (n : Int) = ((a % n : Nat) : Int) := by
  rw [Int.tmod_eq_emod_of_nonneg (by omega)]; rfl
section
variable {P : Program} {X : Type} {enc : X → List Value} {w : World} {sz : Nat} {ty : TypeId} {d : TypeDesc}
theorem Ow.loadIn {e : TypeId} {n c b o : Nat} {xs : List X} {g : Option Nat} (h : Ow w e sz (some ⟨b, o, none⟩) n c (cellsOf enc xs) g) (hs : ∀ x, (enc x).length = sz) {i : Nat} {x : X} (hx : xs[i]? = some x) (hn : xs.length = n)
    (hu : P.underlying ty = some d) (hd : (match d with | .struct _ | .array _ _ => true | _ => false) = true) (hi : (P.info? ty).map (·.size) = some sz) :
    loadIn P ty (.pointer (some ⟨b, o + i * sz, none⟩)) w = .ok (.agg (enc x).toArray) w := h.load hs hx hn hu hd hi
theorem Sl.loadIn {n b o : Nat} {xs : List X} (h : Sl w sz (some ⟨b, o, none⟩) n (cellsOf enc xs)) (hs : ∀ x, (enc x).length = sz) {i : Nat} {x : X} (hx : xs[i]? = some x)
    (hu : P.underlying ty = some d) (hd : (match d with | .struct _ | .array _ _ => true | _ => false) = true) (hi : (P.info? ty).map (·.size) = some sz) (h0 : 0 < sz) :
    loadIn P ty (.pointer (some ⟨b, o + i * sz, none⟩)) w = .ok (.agg (enc x).toArray) w := h.load hs hx hu hd hi h0
theorem Bl.loadIn {g : Nat} {t : TypeId} (x : X) (h : Bl w g t (enc x).toArray) (hs : (enc x).length = sz) (hu : P.underlying ty = some d) (hd : (match d with | .struct _ | .array _ _ => true | _ => false) = true) (hi : (P.info? ty).map (·.size) = some sz) :
    loadIn P ty (.pointer (some ⟨g, 0, none⟩)) w = .ok (.agg (enc x).toArray) w := by
  unfold Go.Proofs.Ytanfhmebjgmdpaa.loadIn
  simp only [Instr.loadAt, Instr.sureAddr, Sem.run_bind, Sem.run_pure, Result.andThen_ok, run_loadVar_at w g 0 t ty (enc x).toArray (enc x).toArray (0, 0) d h hu hd (by simpa [hs] using hi) (by simp)]
theorem Ow.storeIn {e : TypeId} {n c b o : Nat} {xs : List X} {g : Option Nat} (h : Ow w e sz (some ⟨b, o, none⟩) n c (cellsOf enc xs) g) (hs : ∀ x, (enc x).length = sz) (h1 : ∀ x, ∀ v ∈ enc x, v.oneCell' = true) {i : Nat} (hi : i < n) (hn : xs.length = n) (x : X)
    (hif : (P.info? ty).map (·.size) = some sz) :
    ∃ w', storeIn P ty (.pointer (some ⟨b, o + i * sz, none⟩)) (.agg (enc x).toArray) w = .ok () w' ∧ Ow w' e sz (some ⟨b, o, none⟩) n c (cellsOf enc (xs.set i x)) g ∧ Fr (fun k => k = b) w w' := h.store hs h1 hi hn x hif
/-- A whole thing is laid into a block of its own. -/
theorem Bl.storeIn {g : Nat} {t : TypeId} {old : Array Value} (h : Bl w g t old) (x : X) (hs : (enc x).length = sz) (h1 : ∀ v ∈ enc x, v.oneCell' = true) (hold : old.size = sz) (hif : (P.info? ty).map (·.size) = some sz) :
    storeIn P ty (.pointer (some ⟨g, 0, none⟩)) (.agg (enc x).toArray) w = .ok () (w.setRow g (enc x).toArray) := by
  unfold Go.Proofs.Ytanfhmebjgmdpaa.storeIn
  have hnew : putAt old 0 (enc x) = (enc x).toArray := by
    have h2 := putAt_list (enc x) 0 old (by omega)
    rw [List.take_zero, List.nil_append, List.drop_of_length_le (by simp; omega), List.append_nil] at h2
    exact Array.toList_inj.1 (by simpa using h2)
  have := run_storeVar_at (P := P) w g 0 t ty old (enc x).toArray h (by simpa [hs] using hif) (by simp; omega) (by simpa using h1)
  simp only [Instr.storeAt, Instr.sureAddr, Sem.run_bind, Sem.run_pure, Result.andThen_ok, this, hnew]
end
theorem results_row_tmp {P : Program} {fn : Func} {p u : Tmp} {ty : TypeId} (h : fn.results = #[.cell p ty, .tmp u]) (tmps : Array Value) (w : World) (g : Nat) (t : TypeId) (cs : Array Value) (fr : Nat × Nat) (d : TypeDesc)
    (hp : tmps.getD p undef = .pointer (some ⟨g, 0, none⟩)) (hg : w.heap[g]? = some (.cells cs t fr))
    (hu : P.underlying ty = some d) (hd : (match d with | .struct _ | .array _ _ => true | _ => false) = true) (hi : (P.info? ty).map (·.size) = some cs.size) :
    (results fn tmps).run P w = .ok (.tuple #[.agg cs, tmps.getD u undef]) w := by
  have hp' : tmps[p]?.getD undef = .pointer (some ⟨g, 0, none⟩) := by simpa using hp
  simp [results, h, hp', asAddr, run_loadVar_row w g t ty cs fr d hg hu hd hi]
end Go.Proofs.Ytanfhmebjgmdpaa
