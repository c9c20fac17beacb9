/-
  The bound of the second form, and lists of fields opened under it.
-/
import Derived.Test.YtbglloafbmamoaaBytes
import Derived.Test.YtbglloafbmamoaaTlvPut
import Derived.Test.YtbglloafbmamoaaRows
namespace Go.Proofs.Ytbglloafbmamoaa
open Go.ChangeShapes Go.WideShapes Go.ChangeAt Go.RowKit Go.Deep Go.Joins
set_option linter.unusedVariables false

theorem bulk_pos {H : Type} (d : DataW H) : 1 ≤ Rows.uptoBulk d := by
  cases d with
  | lit l => cases l <;> simp [Rows.uptoBulk]
  | _ => simp [Rows.uptoBulk]
theorem bulk_mem {H : Type} {d : DataW H} : ∀ {l : List (DataW H)}, d ∈ l → Rows.uptoBulk d ≤ Rows.uptoBulkAll l
  | x :: l, h => by
    simp only [Rows.uptoBulkAll]
    rcases List.mem_cons.1 h with rfl | h
    · omega
    · have := bulk_mem h; omega
theorem bulk_len {H : Type} : ∀ (l : List (DataW H)), l.length ≤ Rows.uptoBulkAll l
  | [] => by simp
  | x :: l => by
    have := bulk_pos x
    have := bulk_len l
    simp only [Rows.uptoBulkAll, List.length_cons]; omega
theorem bulk_sum {H : Type} {α : Type} (D : α → DataW H) (f : α → Nat) : ∀ (l : List α), (∀ i ∈ l, f i ≤ Rows.uptoBulk (D i)) → (l.map f).sum ≤ Rows.uptoBulkAll (l.map D)
  | [], _ => by simp [Rows.uptoBulkAll]
  | x :: l, h => by
    have h1 := h x (by simp)
    have h2 := bulk_sum D f l fun i hi => h i (by simp [hi])
    simp only [List.map_cons, List.sum_cons, Rows.uptoBulkAll]; omega
theorem bulk_slice {H : Type} (el sp : List (DataW H)) : Rows.uptoBulkAll el + 1 ≤ Rows.uptoBulk (.slice el sp) := by
  simp only [Rows.uptoBulk]; omega
theorem bulk_agg {H : Type} (l : List (DataW H)) : Rows.uptoBulk (.agg l) = Rows.uptoBulkAll l + 1 := by simp [Rows.uptoBulk]

section
variable {H : Type} {enc : TypeId × Value → H} {P : Program} {w : World} {base : Nat} {spare : Nat → Bool} {held : Bool}
/-- A list of structs of a tag and bytes. -/
theorem open_fields {t e ti tb eb : TypeId} {f0 f1 : Field} {fuel : Nat} {cs : List Value} {x : DataW H × List MemPlace} (ht : P.underlying t = some (.slice e)) (he : P.underlying e = some (.struct #[f0, f1]))
    (hone : oneCellFields P #[f0, f1] = true) (hC : P.cellsOf e = 2) (h0 : f0.type = ti) (h1 : f1.type = tb) (hti : P.underlying ti = some (.int .i64)) (htb : P.underlying tb = some (.slice eb)) (heb : P.underlying eb = some (.int .u8)) (hCb : P.cellsOf eb = 1)
    (h : DataW.trod enc P w base spare held fuel t cs = some x) :
    ∃ (A : Option Addr) (n c : Nat) (fs : List (Int × List Nat)), cs = [.slice A n c] ∧ n ≤ c ∧ c ≤ maxLen ∧ FAt w 2 A n fs ∧ (fs.map fun f => f.2.length + 1).sum ≤ Rows.uptoBulk x.1 := by
  rcases open_slice ht h with ⟨rfl, hx⟩ | ⟨a, len, cap, m, k, D, Pl, rfl, _, hl, hm, hmm, hxx, hi⟩
  · exact ⟨none, 0, 0, [], rfl, Nat.le_refl _, Nat.zero_le _, ⟨rfl, fun h => absurd h (by omega)⟩, by simp⟩
  · have hlm : len ≤ m := by rw [hmm]; split <;> omega
    have hrow : ∀ i, i < len → ∃ (T : Int) (V : Option Addr) (nv dv : Nat) (xs : List Nat), w.cell? (a.add (i * 2)) = some (.int .i64 T) ∧ w.cell? (a.add (i * 2 + 1)) = some (.slice V nv dv) ∧ Sl w 1 V nv (xs.map bn) ∧ xs.length + 1 ≤ Rows.uptoBulk (D i) := by
      intro i hil
      obtain ⟨cs', hc, ht'⟩ := hi i (by omega)
      rw [hC] at hc
      obtain ⟨ys, n', _, hD, _, hyl, hf⟩ := DataW.trod_struct he ht'
      obtain ⟨_, hcl, hat⟩ := World.cells?_some hc
      have hyl2 : ys.length = 2 := hyl
      match cs', hcl, ys, hyl2 with
      | [v0, v1], _, [y0, y1], _ =>
        obtain ⟨o0, k0⟩ := hone_of hone 0 f0 rfl
        obtain ⟨o1, k1⟩ := hone_of hone 1 f1 rfl
        have r0 := hf 0 f0 rfl
        have r1 := hf 1 f1 rfl
        rw [o0, k0, h0] at r0
        rw [o1, k1, h1] at r1
        obtain ⟨T, e0, _, _⟩ := DataW.trod_int hti r0
        obtain ⟨V, nv, dv, xs, e1, _, _, hxl, _, hS, hd⟩ := open_bytes htb heb hCb r1
        have a0 := hat 0 (by omega)
        have a1 := hat 1 (by omega)
        rw [add_add] at a0 a1
        simp at e0 e1 a0 a1
        subst e0 e1
        refine ⟨T, V, nv, dv, xs, a0, a1, hS, ?_⟩
        simp only [Prod.mk.injEq] at hD
        rw [hD.1, bulk_agg]
        simp only [List.map_cons, List.map_nil, Rows.uptoBulkAll]
        rcases hd with hd | ⟨el, sp, hd, hel⟩
        · rw [← hxl, hd]; omega
        · have h2 := bulk_slice el sp
          have h3 := bulk_len el
          have h4 : Rows.uptoBulk y1.1 = Rows.uptoBulk (DataW.slice el sp) := by rw [show y1.1 = _ from hd]
          rw [h4]; omega
    have hch : ∃ r : Nat → Int × List Nat, ∀ i, i < len → ∃ (V : Option Addr) (nv dv : Nat), w.cell? (a.add (i * 2)) = some (.int .i64 (r i).1) ∧ w.cell? (a.add (i * 2 + 1)) = some (.slice V nv dv) ∧ Sl w 1 V nv ((r i).2.map bn) ∧ (r i).2.length + 1 ≤ Rows.uptoBulk (D i) := by
      refine ⟨fun i => if hil : i < len then (Classical.choose (hrow i hil), Classical.choose (Classical.choose_spec (Classical.choose_spec (Classical.choose_spec (Classical.choose_spec (hrow i hil)))))) else (0, []), fun i hil => ?_⟩
      simp only [dif_pos hil]
      exact ⟨_, _, _, Classical.choose_spec (Classical.choose_spec (Classical.choose_spec (Classical.choose_spec (Classical.choose_spec (hrow i hil)))))⟩
    obtain ⟨r, hr⟩ := hch
    refine ⟨some a, len, cap, (List.range len).map r, rfl, hl, hm, ⟨by simp, fun hn => ?_⟩, ?_⟩
    · obtain ⟨_, _, _, c0, _⟩ := hr 0 hn
      have hs : a.spot = none := by simpa [Addr.add] using World.cell?_spot c0
      obtain ⟨b, o, sp⟩ := a
      simp only at hs
      subst hs
      refine ⟨b, o, rfl, fun i hi' => ?_⟩
      have hil : i < len := by simpa using hi'
      obtain ⟨V, nv, dv, c0, c1, hS, _⟩ := hr i hil
      rw [Addr.add_lit] at c0 c1
      exact ⟨V, nv, dv, by simpa using c0, by simpa [Nat.add_assoc] using c1, by simpa using hS⟩
    · rw [hxx]
      have h2 := bulk_slice ((List.range len).map D) ((List.range (m - len)).map fun j => D (len + j))
      have h3 := bulk_sum D (fun i => (r i).2.length + 1) (List.range len) fun i hi' => (hr i (by simpa using hi')).choose_spec.choose_spec.choose_spec.2.2.2
      rw [List.map_map]
      show ((List.range len).map fun i => (r i).2.length + 1).sum ≤ Rows.uptoBulk (DataW.slice ((List.range len).map D) ((List.range (m - len)).map fun j => D (len + j)))
      omega
end

theorem putAll_sum : ∀ (fs : List (Int × List Nat)), (fs.map fun f => f.2.length + 1).sum ≤ 1048576 → (putAll fs).length ≤ 11 * (fs.map fun f => f.2.length + 1).sum ∧ fs.length ≤ (fs.map fun f => f.2.length + 1).sum ∧ ∀ (i : Nat) (hi : i < fs.length), fs[i].2.length ≤ 1048576
  | [], _ => by simp [putAll]
  | (t, v) :: fs, h => by
    simp only [List.map_cons, List.sum_cons] at h ⊢
    obtain ⟨a, b, c⟩ := putAll_sum fs (by omega)
    have hv := short_le (n := v.length) (by unfold U64; omega)
    refine ⟨?_, by simp; omega, fun i hi => ?_⟩
    · have e : putAll ((t, v) :: fs) = formF t.toNat v ++ putAll fs := by simp [putAll]
      rw [e, List.length_append, formF_len]; omega
    · rcases i with _ | i
      · simp; omega
      · exact c i (by simpa using hi)
end Go.Proofs.Ytbglloafbmamoaa
