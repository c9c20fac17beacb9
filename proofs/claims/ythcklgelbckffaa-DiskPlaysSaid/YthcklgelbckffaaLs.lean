/-
  Lists of lists of bytes as an argument; the bound of the second form.
-/
import Derived.Test.YthcklgelbckffaaBy
import Derived.Test.YthcklgelbckffaaFrameW
import Derived.Test.YthcklgelbckffaaRows
namespace Go.Proofs.Ythcklgelbckffaa
open Go.ChangeShapes Go.WideShapes Go.ChangeAt Go.RowKit Go.Deep Go.Joins
set_option linter.unusedVariables false
theorem bulk_pos {H : Type} (d : DataW H) : 1 ≤ Rows.uptoBulk d := by
  cases d with
  | lit l => cases l <;> simp [Rows.uptoBulk]
  | _ => simp [Rows.uptoBulk]
theorem bulk_mem {H : Type} {d : DataW H} : ∀ {l : List (DataW H)}, d ∈ l → Rows.uptoBulk d ≤ Rows.uptoBulkAll l
  | x :: l, h => by
    simp only [Rows.uptoBulkAll]
    rcases List.mem_cons.1 h with rfl | h
    · omega
    · have := bulk_mem h; omega
theorem bulk_len {H : Type} : ∀ (l : List (DataW H)), l.length ≤ Rows.uptoBulkAll l
  | [] => by simp
  | x :: l => by
    have := bulk_pos x
    have := bulk_len l
    simp only [Rows.uptoBulkAll, List.length_cons]; omega
theorem bulk_sum {H : Type} {α : Type} (D : α → DataW H) (f : α → Nat) : ∀ (l : List α), (∀ i ∈ l, f i ≤ Rows.uptoBulk (D i)) → (l.map f).sum ≤ Rows.uptoBulkAll (l.map D)
  | [], _ => by simp [Rows.uptoBulkAll]
  | x :: l, h => by
    have h1 := h x (by simp)
    have h2 := bulk_sum D f l fun i hi => h i (by simp [hi])
    simp only [List.map_cons, List.sum_cons, Rows.uptoBulkAll]; omega
theorem bulk_slice {H : Type} (el sp : List (DataW H)) : Rows.uptoBulkAll el + 1 ≤ Rows.uptoBulk (.slice el sp) := by
  simp only [Rows.uptoBulk]; omega
theorem bulk_agg {H : Type} (l : List (DataW H)) : Rows.uptoBulk (.agg l) = Rows.uptoBulkAll l + 1 := by simp [Rows.uptoBulk]

theorem Sl.lt {w : World} {n : Nat} {A : Option Addr} {xs : List Value} (hS : Sl w 1 A n xs) : ∀ b o, A = some ⟨b, o, none⟩ → 0 < n → b < w.heap.size := by
  intro b o hA hn
  obtain ⟨b2, o2, h2, hc2⟩ := hS.2 hn
  rw [hA] at h2; cases h2
  have hx : 0 < xs.length := by rw [hS.1]; omega
  exact World.block_lt_of_cell? w _ (hc2 0 _ (List.getElem?_eq_getElem hx))

/-- The slice '.slice A n c' of slices of bytes reads as xss, all of it below block B. -/
def LAt (w : World) (B : Nat) (A : Option Addr) (n : Nat) (xss : List (List Nat)) : Prop :=
  n = xss.length ∧ (0 < n → ∃ b o, A = some ⟨b, o, none⟩ ∧ b < B ∧ ∀ (i : Nat) (hi : i < xss.length), ∃ V m d, w.cell? ⟨b, o + i, none⟩ = some (.slice V m d) ∧ m ≤ d ∧ d ≤ 9223372036854775807 ∧ Sl w 1 V m (xss[i].map bn) ∧ ∀ b' o', V = some ⟨b', o', none⟩ → 0 < m → b' < B)
section
variable {H : Type} {enc : TypeId × Value → H} {P : Program} {w : World} {base : Nat} {spare : Nat → Bool} {held : Bool}
theorem bytes_bulk {n : Nat} {d : DataW H} (h : n = 0 ∨ ∃ el sp, d = .slice el sp ∧ el.length = n) : n + 1 ≤ Rows.uptoBulk d := by
  rcases h with rfl | ⟨el, sp, rfl, hel⟩
  · have := bulk_pos d; omega
  · have h2 := bulk_slice el sp
    have h3 := bulk_len el
    omega
theorem open_lists {t e eb : TypeId} {fuel : Nat} {cs : List Value} {x : DataW H × List MemPlace} (ht : P.underlying t = some (.slice e)) (he : P.underlying e = some (.slice eb)) (heb : P.underlying eb = some (.int .u8)) (hC : P.cellsOf e = 1) (hCb : P.cellsOf eb = 1)
    (h : DataW.trod enc P w base spare held fuel t cs = some x) :
    ∃ (A : Option Addr) (n c : Nat) (xss : List (List Nat)), cs = [.slice A n c] ∧ n ≤ c ∧ c ≤ maxLen ∧ LAt w w.heap.size A n xss ∧ (∀ x ∈ xss, ∀ y ∈ x, y < 256) ∧ (xss.map fun x => x.length + 1).sum ≤ Rows.uptoBulk x.1 := by
  rcases open_slice ht h with ⟨rfl, hx⟩ | ⟨a, len, cap, m, k, D, Pl, rfl, _, hl, hm, hmm, hxx, hi⟩
  · exact ⟨none, 0, 0, [], rfl, Nat.le_refl _, Nat.zero_le _, ⟨rfl, fun h => absurd h (by omega)⟩, (fun x h => by cases h), by simp⟩
  · have hlm : len ≤ m := by rw [hmm]; split <;> omega
    have hrow : ∀ i, i < len → ∃ (xs : List Nat), (∃ (V : Option Addr) (nv dv : Nat), w.cell? (a.add i) = some (.slice V nv dv) ∧ nv ≤ dv ∧ dv ≤ 9223372036854775807 ∧ Sl w 1 V nv (xs.map bn)) ∧ (∀ y ∈ xs, y < 256) ∧ xs.length + 1 ≤ Rows.uptoBulk (D i) := by
      intro i hil
      obtain ⟨cs', hc, ht'⟩ := hi i (by omega)
      rw [hC] at hc
      obtain ⟨_, hcl, hat⟩ := World.cells?_some hc
      match cs', hcl with
      | [v], _ =>
        obtain ⟨V, nv, dv, xs, e1, h1, h2, hxl, h256, hS, hd⟩ := open_bytes he heb hCb ht'
        have a0 := hat 0 (by omega)
        rw [add_add, Nat.mul_one, Nat.add_zero] at a0
        simp at e1 a0
        subst e1
        exact ⟨xs, ⟨V, nv, dv, a0, h1, by unfold maxLen at h2; exact h2, hS⟩, h256, by rw [← hxl]; exact bytes_bulk hd⟩
    have hch : ∃ r : Nat → List Nat, ∀ i, i < len → (∃ (V : Option Addr) (nv dv : Nat), w.cell? (a.add i) = some (.slice V nv dv) ∧ nv ≤ dv ∧ dv ≤ 9223372036854775807 ∧ Sl w 1 V nv ((r i).map bn)) ∧ (∀ y ∈ r i, y < 256) ∧ (r i).length + 1 ≤ Rows.uptoBulk (D i) := by
      refine ⟨fun i => if hil : i < len then Classical.choose (hrow i hil) else [], fun i hil => ?_⟩
      simp only [dif_pos hil]
      exact Classical.choose_spec (hrow i hil)
    obtain ⟨r, hr⟩ := hch
    refine ⟨some a, len, cap, (List.range len).map r, rfl, hl, hm, ⟨by simp, fun hn => ?_⟩, ?_, ?_⟩
    · obtain ⟨⟨_, _, _, c0, _⟩, _⟩ := hr 0 hn
      have hs : a.spot = none := by simpa [Addr.add] using World.cell?_spot c0
      obtain ⟨b, o, sp⟩ := a
      simp only at hs
      subst hs
      refine ⟨b, o, rfl, by simpa [addBlock] using World.block_lt_of_cell? w _ c0, fun i hi' => ?_⟩
      have hil : i < len := by simpa using hi'
      obtain ⟨⟨V, nv, dv, c0, h1, h2, hS⟩, _⟩ := hr i hil
      rw [Addr.add_lit] at c0
      exact ⟨V, nv, dv, c0, h1, h2, by simpa using hS, fun b' o' e h0 => hS.lt b' o' e h0⟩
    · intro x hx
      obtain ⟨i, hi', rfl⟩ := List.mem_map.1 hx
      exact (hr i (by simpa using hi')).2.1
    · rw [hxx]
      have h2 := bulk_slice ((List.range len).map D) ((List.range (m - len)).map fun j => D (len + j))
      have h3 := bulk_sum D (fun i => (r i).length + 1) (List.range len) fun i hi' => (hr i (by simpa using hi')).2.2
      rw [List.map_map]
      show ((List.range len).map fun i => (r i).length + 1).sum ≤ Rows.uptoBulk (DataW.slice ((List.range len).map D) ((List.range (m - len)).map fun j => D (len + j)))
      omega
end
theorem len_sum : ∀ (xss : List (List Nat)), xss.length ≤ (xss.map fun x => x.length + 1).sum
  | [] => by simp
  | x :: l => by
    have := len_sum l
    simp only [List.map_cons, List.sum_cons, List.length_cons]; omega
theorem open_intsL {H : Type} {enc : TypeId × Value → H} {P : Program} {w : World} {base : Nat} {spare : Nat → Bool} {held : Bool} {t e : TypeId} {fuel : Nat} {cs : List Value} {x : DataW H × List MemPlace} (ht : P.underlying t = some (.slice e)) (he : P.underlying e = some (.int .i64)) (hC : P.cellsOf e = 1)
    (h : DataW.trod enc P w base spare held fuel t cs = some x) :
    ∃ (A : Option Addr) (n c : Nat) (xs : List Int), cs = [.slice A n c] ∧ n ≤ c ∧ c ≤ maxLen ∧ n = xs.length ∧ Sl w 1 A n (xs.map fun z => .int .i64 z) ∧ (n = 0 ∨ ∃ el sp, x.1 = .slice el sp ∧ el.length = n) := by
  obtain ⟨A, n, c, f, hcs, hn, hc, hlen, hcell, hfld⟩ := open_ones ht hC h
  have hf : ∀ i, i < n → ∃ z : Int, f i 0 = .int .i64 z := fun i hi => by
    obtain ⟨y, m, hy⟩ := hfld i hi
    obtain ⟨z, e, _⟩ := DataW.trod_int he hy
    exact ⟨z, by simpa using e⟩
  refine ⟨A, n, c, (List.range n).map fun i => intOf (f i 0), hcs, hn, hc, by simp, ⟨by simp, ?_⟩, hlen⟩
  intro hn0
  obtain ⟨b, o, hA, hb, hcc⟩ := hcell hn0
  refine ⟨b, o, hA, fun j u hu => ?_⟩
  have hj : j < n := by simpa using (List.getElem?_eq_some_iff.1 hu).1
  obtain ⟨z, e⟩ := hf j hj
  have := hcc j 0 hj (by omega)
  rw [Nat.mul_one, Nat.add_zero, e] at this
  rw [this]
  simp [hj, e] at hu
  rw [← hu]; simp [intOf]
end Go.Proofs.Ythcklgelbckffaa
