/-
  A whole element out of, and into, a slice of the call's own memory (Ow), as equations of the run: elements of any size.
-/
import Derived.Test.YtanfhmebjgmdpaaOwn
import Derived.Test.YtanfhmebjgmdpaaRow
namespace Go.Proofs.Ytanfhmebjgmdpaa
open Go.RowKit
set_option linter.unusedVariables false

theorem putAt_far : ∀ (vs : List Value) (k : Nat) (cur : Array Value) (j : Nat), j < k ∨ k + vs.length ≤ j → (putAt cur k vs)[j]? = cur[j]?
  | [], k, cur, j, _ => rfl
  | v :: vs, k, cur, j, h => by
    rw [putAt, putAt_far vs (k + 1) _ j (by simp at h; omega), Array.getElem?_setIfInBounds_ne (by simp at h; omega)]
theorem putAt_near : ∀ (vs : List Value) (k : Nat) (cur : Array Value) (j : Nat), k + vs.length ≤ cur.size → j < vs.length → (putAt cur k vs)[k + j]? = vs[j]?
  | [], k, cur, j, _, h => by simp at h
  | v :: vs, k, cur, j, hs, h => by
    rw [putAt]
    cases j with
    | zero =>
      rw [putAt_far vs (k + 1) _ (k + 0) (.inl (by omega)), Nat.add_zero, Array.getElem?_setIfInBounds_self_of_lt (by simp at hs; omega)]
      rfl
    | succ j =>
      rw [show k + (j + 1) = k + 1 + j by omega, putAt_near vs (k + 1) _ j (by simp at hs ⊢; omega) (by simp at h; omega)]
      simp
theorem putAt_size : ∀ (vs : List Value) (k : Nat) (cur : Array Value), (putAt cur k vs).size = cur.size
  | [], _, _ => rfl
  | v :: vs, k, cur => by rw [putAt, putAt_size vs]; simp

section
variable {X : Type} {enc : X → List Value} {sz : Nat}
/-- The cells of a row of things, each of sz cells. -/
def cellsOf (enc : X → List Value) (xs : List X) : List Value := xs.flatMap enc
theorem cellsOf_nil : cellsOf enc [] = [] := rfl
theorem cellsOf_append (a b : List X) : cellsOf enc (a ++ b) = cellsOf enc a ++ cellsOf enc b := by simp [cellsOf]
theorem cellsOf_one (x : X) : cellsOf enc [x] = enc x := by simp [cellsOf]
theorem cellsOf_length (hs : ∀ x, (enc x).length = sz) : ∀ xs : List X, (cellsOf enc xs).length = xs.length * sz
  | [] => by simp [cellsOf]
  | x :: xs => by
    have := cellsOf_length hs xs
    simp only [cellsOf, List.flatMap_cons, List.length_append, hs, List.length_cons] at this ⊢
    rw [this, Nat.add_mul]; omega
theorem cellsOf_at (hs : ∀ x, (enc x).length = sz) : ∀ (xs : List X) (i : Nat) (x : X), xs[i]? = some x → ∀ j, j < sz → (cellsOf enc xs)[i * sz + j]? = (enc x)[j]?
  | [], i, x, h, j, hj => by simp at h
  | y :: ys, 0, x, h, j, hj => by
    simp at h; subst h
    simp only [cellsOf, List.flatMap_cons]
    rw [List.getElem?_append_left (by rw [hs]; omega)]
    simp
  | y :: ys, i + 1, x, h, j, hj => by
    have := cellsOf_at hs ys i x (by simpa using h) j hj
    simp only [cellsOf, List.flatMap_cons] at this ⊢
    rw [List.getElem?_append_right (by rw [hs, Nat.add_mul]; omega), hs, show (i + 1) * sz + j - sz = i * sz + j by rw [Nat.add_mul]; omega]
    exact this
theorem cellsOf_drop (hs : ∀ x, (enc x).length = sz) {xs : List X} {i : Nat} {x : X} (h : xs[i]? = some x) : ((cellsOf enc xs).drop (i * sz)).take sz = enc x := by
  apply List.ext_getElem?
  intro j
  by_cases hj : j < sz
  · rw [List.getElem?_take, if_pos hj, List.getElem?_drop, cellsOf_at hs xs i x h j hj]
  · rw [List.getElem?_take, if_neg hj, List.getElem?_eq_none (by rw [hs]; omega)]
theorem cellsOf_set (hs : ∀ x, (enc x).length = sz) (xs : List X) (i : Nat) (x : X) (hi : i < xs.length) (j : Nat) :
    (cellsOf enc (xs.set i x))[j]? = if i * sz ≤ j ∧ j < i * sz + sz then (enc x)[j - i * sz]? else (cellsOf enc xs)[j]? := by
  by_cases hjl : j < xs.length * sz
  · have hsz : 0 < sz := by rcases Nat.eq_zero_or_pos sz with h | h; (rw [h] at hjl; omega); exact h
    obtain ⟨q, r, hr, rfl⟩ : ∃ q r, r < sz ∧ j = q * sz + r := ⟨j / sz, j % sz, Nat.mod_lt _ hsz, by rw [Nat.mul_comm]; exact (Nat.div_add_mod j sz).symm⟩
    have hq : q < xs.length := by
      rcases Nat.lt_or_ge q xs.length with h | h
      · exact h
      · have := Nat.mul_le_mul_right sz h; omega
    by_cases hqi : q = i
    · subst hqi
      rw [if_pos ⟨by omega, by omega⟩, cellsOf_at hs (xs.set q x) q x (List.getElem?_set_self hq) r hr, show q * sz + r - q * sz = r by omega]
    · rw [if_neg (by
        intro ⟨h1, h2⟩
        rcases Nat.lt_or_gt_of_ne hqi with h | h
        · have := Nat.mul_le_mul_right sz (show q + 1 ≤ i by omega); rw [Nat.add_mul] at this; omega
        · have := Nat.mul_le_mul_right sz (show i + 1 ≤ q by omega); rw [Nat.add_mul] at this; omega)]
      rw [cellsOf_at hs (xs.set i x) q xs[q] (by rw [List.getElem?_set_ne (by omega), List.getElem?_eq_getElem hq]) r hr, cellsOf_at hs xs q xs[q] (List.getElem?_eq_getElem hq) r hr]
  · have h1 := cellsOf_length hs xs
    have h2 := cellsOf_length hs (xs.set i x)
    rw [List.length_set] at h2
    have h3 := Nat.mul_le_mul_right sz (show i + 1 ≤ xs.length by omega)
    rw [Nat.add_mul] at h3
    rw [if_neg (by omega), List.getElem?_eq_none (by omega), List.getElem?_eq_none (by omega)]
end

section
variable {P : Program} {w : World} {e : TypeId} {X : Type} {enc : X → List Value} {sz n c : Nat} {A : Option Addr} {xs : List X} {g : Option Nat}
/-- Thing i of the slice: where it lies, and what a load of it gives. -/
theorem Ow.row (h : Ow w e sz A n c (cellsOf enc xs) g) (hs : ∀ x, (enc x).length = sz) {i : Nat} {x : X} (hx : xs[i]? = some x) (hn : xs.length = n) :
    ∃ b o cur, A = some ⟨b, o, none⟩ ∧ g = some b ∧ w.heap[b]? = some (.cells cur e (0, 0)) ∧ o + c * sz ≤ cur.size ∧ i * sz + sz ≤ n * sz ∧ n * sz ≤ c * sz ∧ (cur.toList.drop (o + i * sz)).take sz = enc x := by
  have hi : i < n := by rw [← hn]; exact (List.getElem?_eq_some_iff.1 hx).1
  rcases h.2 with ⟨h1, h2, h3, h4⟩ | ⟨b, o, cur, hA, hg, hh, h2, h3, h4, h5⟩
  · omega
  · have h6 := Nat.mul_le_mul_right sz (show i + 1 ≤ n by omega)
    rw [Nat.add_mul] at h6
    refine ⟨b, o, cur, hA, hg, hh, h2, by omega, Nat.mul_le_mul_right sz h3, ?_⟩
    apply List.ext_getElem?
    intro j
    by_cases hj : j < sz
    · rw [List.getElem?_take, if_pos hj, List.getElem?_drop, Nat.add_assoc]
      have h7 := h5 (i * sz + j) (by omega)
      rw [cellsOf_at hs xs i x hx j hj] at h7
      simpa using h7
    · rw [List.getElem?_take, if_neg hj, List.getElem?_eq_none (by rw [hs]; omega)]
theorem Ow.load {w : World} {e : TypeId} {sz n c b o : Nat} {xs : List X} {g : Option Nat} (h : Ow w e sz (some ⟨b, o, none⟩) n c (cellsOf enc xs) g) (hs : ∀ x, (enc x).length = sz) {i : Nat} {x : X} (hx : xs[i]? = some x) (hn : xs.length = n)
    {ty : TypeId} {d : TypeDesc} (hu : P.underlying ty = some d) (hd : (match d with | .struct _ | .array _ _ => true | _ => false) = true) (hi : (P.info? ty).map (·.size) = some sz) :
    (Instr.loadAt ty (.pointer (some ⟨b, o + i * sz, none⟩))).run P w = .ok (.agg (enc x).toArray) w := by
  obtain ⟨b', o', cur, hA, hg, hh, h1, h2, h3, h4⟩ := h.row hs hx hn
  cases hA
  simp only [Instr.loadAt, Instr.sureAddr, Sem.run_bind, Sem.run_pure, Result.andThen_ok, run_loadVar_at w b (o + i * sz) e ty cur (enc x).toArray (0, 0) d hh hu hd (by simpa [hs] using hi) (by simpa [hs] using h4)]
/-- A store of a whole thing. -/
theorem Ow.store {w : World} {e : TypeId} {sz n c b o : Nat} {xs : List X} {g : Option Nat} (h : Ow w e sz (some ⟨b, o, none⟩) n c (cellsOf enc xs) g) (hs : ∀ x, (enc x).length = sz) (h1 : ∀ x, ∀ v ∈ enc x, v.oneCell' = true) {i : Nat} (hi : i < n) (hn : xs.length = n) (x : X)
    {ty : TypeId} (hif : (P.info? ty).map (·.size) = some sz) :
    ∃ w', (Instr.storeAt ty (.pointer (some ⟨b, o + i * sz, none⟩)) (.agg (enc x).toArray)).run P w = .ok () w' ∧ Ow w' e sz (some ⟨b, o, none⟩) n c (cellsOf enc (xs.set i x)) g ∧ Fr (fun k => k = b) w w' := by
  rcases h.2 with ⟨h2, _⟩ | ⟨b', o', cur, hA, hg, hh, h2, h3, h4, h5⟩
  · cases h2
  · cases hA
    have h6 := Nat.mul_le_mul_right sz (show i + 1 ≤ n by omega)
    have h7 := Nat.mul_le_mul_right sz h3
    rw [Nat.add_mul] at h6
    have hl := hs x
    refine ⟨w.setRow b (putAt cur (o + i * sz) (enc x)), ?_, ⟨?_, .inr ⟨b, o, _, rfl, hg, setRow_heap w b cur _ e _ hh, by rw [putAt_size]; exact h2, h3, h4, fun j hj => ?_⟩⟩, Fr.row _⟩
    · have := run_storeVar_at (P := P) w b (o + i * sz) e ty cur (enc x).toArray hh (by simpa [hs] using hif) (by simp; omega) (by simpa using fun v hv => h1 x v hv)
      simp only [Instr.storeAt, Instr.sureAddr, Sem.run_bind, Sem.run_pure, Result.andThen_ok, this]
    · rw [cellsOf_length hs, List.length_set, hn]
    · rw [cellsOf_set hs xs i x (by omega) j]
      by_cases hj2 : i * sz ≤ j ∧ j < i * sz + sz
      · rw [if_pos hj2, show o + j = o + i * sz + (j - i * sz) by omega, putAt_near _ _ _ _ (by omega) (by omega)]
      · rw [if_neg hj2, putAt_far _ _ _ _ (by omega)]
        exact h5 j hj
end
end Go.Proofs.Ytanfhmebjgmdpaa
