/-
  TlvTwo: rows of fields, what the loop that lays them holds.
-/
import Derived.Test.YtbglloafbmamoaaTlvOne0
import Derived.Test.YtbglloafbmamoaaTlvT1
import Derived.Test.YtbglloafbmamoaaTlvB3
namespace Go.Proofs.Ytbglloafbmamoaa
open Go.RowKit
set_option linter.unusedVariables false

/-- A field as it was handed in. -/
structure FR where
  t : Int
  v : List Nat
  V : Option Addr
  m : Nat
  d : Nat
def FR.cells (r : FR) : List Value := [.int .i64 r.t, .slice r.V r.m r.d]
theorem FR.cells_len (r : FR) : r.cells.length = 2 := rfl
theorem FAt.rows {w : World} {size n : Nat} {A : Option Addr} {fs : List (Int × List Nat)} (h : FAt w size A n fs) :
    ∃ R : List FR, R.map (fun r => (r.t, r.v)) = fs ∧ (0 < n → ∃ b o, A = some ⟨b, o, none⟩ ∧ ∀ (i : Nat) (r : FR), R[i]? = some r → w.cell? ⟨b, o + i * size, none⟩ = some (.int .i64 r.t) ∧ w.cell? ⟨b, o + i * size + 1, none⟩ = some (.slice r.V r.m r.d) ∧ Sl w 1 r.V r.m (r.v.map bn)) := by
  by_cases hn : n = 0
  · have : fs = [] := List.eq_nil_of_length_eq_zero (by rw [← h.1]; exact hn)
    exact ⟨[], by rw [this]; rfl, fun h => by omega⟩
  · obtain ⟨b, o, hA, hc⟩ := h.2 (by omega)
    have hg : ∀ i, ∃ r : FR, ∀ hi : i < fs.length, (r.t, r.v) = fs[i] ∧ w.cell? ⟨b, o + i * size, none⟩ = some (.int .i64 r.t) ∧ w.cell? ⟨b, o + i * size + 1, none⟩ = some (.slice r.V r.m r.d) ∧ Sl w 1 r.V r.m (r.v.map bn) := by
      intro i
      by_cases hi : i < fs.length
      · obtain ⟨V, m, d, c0, c1, hS⟩ := hc i hi
        exact ⟨⟨fs[i].1, fs[i].2, V, m, d⟩, fun _ => ⟨rfl, c0, c1, hS⟩⟩
      · exact ⟨⟨0, [], none, 0, 0⟩, fun h => absurd h hi⟩
    refine ⟨(List.range fs.length).map fun i => Classical.choose (hg i), ?_, fun _ => ⟨b, o, hA, fun i r hr => ?_⟩⟩
    · apply List.ext_getElem
      · simp
      · intro i h1 h2
        simp only [List.getElem_map, List.getElem_range]
        exact (Classical.choose_spec (hg i) h2).1
    · rw [List.getElem?_map] at hr
      by_cases hi : i < fs.length
      · rw [List.getElem?_range hi] at hr
        simp only [Option.map_some, Option.some.injEq] at hr
        rw [← hr]
        exact (Classical.choose_spec (hg i) hi).2
      · rw [List.getElem?_eq_none (by simp; omega)] at hr; cases hr

def lastT : Int → List (Int × List Nat) → Int
  | a, [] => a
  | _, (t, _) :: r => lastT t r
theorem lastT_snoc : ∀ (l : List (Int × List Nat)) (a t : Int) (v : List Nat), lastT a (l ++ [(t, v)]) = t
  | [], _, _, _ => rfl
  | (s, u) :: l, a, t, v => lastT_snoc l s t v
theorem putScan_snoc : ∀ (l : List (Int × List Nat)) (a t : Int) (v : List Nat), putScan a (l ++ [(t, v)]) = 0 ↔ putScan a l = 0 ∧ ¬ (t ≤ lastT a l ∨ 255 < t) ∧ v.length ≠ 0
  | [], a, t, v => by
    show putScan a [(t, v)] = 0 ↔ _
    simp only [putScan, lastT]
    by_cases h1 : t ≤ a ∨ 255 < t
    · rw [if_pos h1]; simp [h1]
    · rw [if_neg h1]
      by_cases h2 : v.length = 0
      · rw [if_pos h2]; simp [h2]
      · rw [if_neg h2]; exact ⟨fun _ => ⟨trivial, h1, h2⟩, fun _ => rfl⟩
  | (s, u) :: l, a, t, v => by
    show putScan a ((s, u) :: (l ++ [(t, v)])) = 0 ↔ _
    rw [putScan, putScan]
    by_cases h1 : s ≤ a ∨ 255 < s
    · rw [if_pos h1, if_pos h1]; simp
    · rw [if_neg h1, if_neg h1]
      by_cases h2 : u.length = 0
      · rw [if_pos h2, if_pos h2]; simp
      · rw [if_neg h2, if_neg h2]
        exact putScan_snoc l s t v
theorem take_snoc {α : Type} {l : List α} {k : Nat} {x : α} (h : l[k]? = some x) : l.take (k + 1) = l.take k ++ [x] := by
  obtain ⟨hk, rfl⟩ := List.getElem?_eq_some_iff.1 h
  exact (List.take_append_getElem hk).symm

theorem FAt.ofRows {w : World} {e : TypeId} {A : Option Addr} {n c : Nat} {g : Option Nat} {R : List FR} (hO : Ow w e 2 A n c (R.flatMap FR.cells) g) (hv : ∀ r ∈ R, Sl w 1 r.V r.m (r.v.map bn)) : FAt w 2 A n (R.map fun r => (r.t, r.v)) := by
  have hn := hO.rowsLen FR.cells_len (by omega)
  refine ⟨by simpa using hn, fun h0 => ?_⟩
  obtain ⟨b, o, hA, hg, _⟩ := hO.rowAt FR.cells_len (k := 0) (by omega) (by omega)
  refine ⟨b, o, hA, fun i hi => ?_⟩
  have hi' : i < R.length := by simpa using hi
  obtain ⟨b', o', hA', _, hc⟩ := hO.rowAt FR.cells_len hi' (by omega)
  rw [hA] at hA'; cases hA'
  have e : (R.map fun r => (r.t, r.v))[i] = (R[i].t, R[i].v) := by simp
  rw [e]
  exact ⟨_, _, _, by simpa using (hc 0 _ rfl).1, (hc 1 _ rfl).1, hv _ (List.getElem_mem hi')⟩
theorem putAll_bytes : ∀ (fs : List (Int × List Nat)) (a : Int), -1 ≤ a → putScan a fs = 0 → (∀ f ∈ fs, ∀ y ∈ f.2, y < 256) → ∀ x ∈ putAll fs, x < 256
  | [], _, _, _, _, x, hx => by simp [putAll] at hx
  | (t, v) :: r, a, ha, h, hv, x, hx => by
    rw [putScan] at h
    split at h
    · simp at h
    · rename_i h1
      split at h
      · simp at h
      · have e : putAll ((t, v) :: r) = formF t.toNat v ++ putAll r := by simp [putAll]
        rw [e] at hx
        rcases List.mem_append.1 hx with hx | hx
        · rw [formF] at hx
          rcases List.mem_append.1 hx with hx | hx
          · rcases List.mem_cons.1 hx with rfl | hx
            · omega
            · exact short_bytes _ _ (Nat.le_refl _) x hx
          · exact hv _ (List.mem_cons_self ..) x hx
        · exact putAll_bytes r t (by omega) h (fun f hf => hv f (List.mem_cons_of_mem _ hf)) x hx
theorem listAll_bytes {xss : List (List Nat)} (h : ∀ x ∈ xss, ∀ y ∈ x, y < 256) : ∀ y ∈ listAll xss, y < 256 := by
  intro y hy
  obtain ⟨x, hx, hyx⟩ := List.mem_flatMap.1 hy
  rcases List.mem_append.1 hyx with hy | hy
  · exact short_bytes _ _ (Nat.le_refl _) y hy
  · exact h x hx y hy
/-- 'so many fields were laid'. -/
def Laid (fs : List (Int × List Nat)) (R : List FR) (n : Nat) (w0 : World) (u7 u8 u9 u10 u11 : Value) (w : World) : Prop :=
  ∃ (k : Nat) (I : Option Addr) (ci : Nat) (gI : Option Nat) (rb : Bool) (la : Int) (sz : Nat), u11 = .int .i64 (k : Int) ∧ u7 = .slice I k ci ∧ u8 = .bool rb ∧ u9 = .int .i64 la ∧ u10 = .int .i64 (sz : Int) ∧ k ≤ n ∧
    Hid (rb = true ↔ putScan 0 (fs.take k) = 0) ∧ Hid (la = lastT 0 (fs.take k)) ∧ Hid (sz = (putAll (fs.take k)).length) ∧ Hid (Ow w 40 2 I k ci ((R.take k).flatMap FR.cells) gI) ∧ Hid (∀ b, gI = some b → w0.heap.size ≤ b) ∧ Fr (fun _ => False) w0 w
end Go.Proofs.Ytbglloafbmamoaa
