/-
  Scripts of a disk's steps, as an argument; slices of bools.
-/
import Derived.Test.YthcklgelbckffaaBy
import Derived.Test.YthcklgelbckffaaFrameW
import Derived.Test.YthcklgelbckffaaRows
import Derived.Test.YthcklgelbckffaaChecked
namespace Go.Proofs.Ythcklgelbckffaa
open Go.ChangeShapes Go.WideShapes Go.ChangeAt Go.RowKit Go.Deep Go.Joins
set_option linter.unusedVariables false
set_option linter.unusedSimpArgs false
section
variable {H : Type} {enc : TypeId × Value → H} {P : Program} {w : World} {base : Nat} {spare : Nat → Bool} {held : Bool}
def bitOf : Value → Bool | .bool b => b | _ => false
theorem open_bools {t e : TypeId} {fuel : Nat} {cs : List Value} {x : DataW H × List MemPlace} (ht : P.underlying t = some (.slice e)) (he : P.underlying e = some .bool) (hC : P.cellsOf e = 1)
    (h : DataW.trod enc P w base spare held fuel t cs = some x) :
    ∃ (A : Option Addr) (n c : Nat) (xs : List Bool), cs = [.slice A n c] ∧ n ≤ c ∧ c ≤ maxLen ∧ n = xs.length ∧ Sl w 1 A n (xs.map .bool) ∧ (n = 0 ∨ ∃ el sp, x.1 = .slice el sp ∧ el.length = n) := by
  obtain ⟨A, n, c, f, hcs, hn, hc, hlen, hcell, hfld⟩ := open_ones ht hC h
  have hf : ∀ i, i < n → ∃ z : Bool, f i 0 = .bool z := fun i hi => by
    obtain ⟨y, m, hy⟩ := hfld i hi
    obtain ⟨z, e, _⟩ := DataW.trod_bool he hy
    exact ⟨z, by simpa using e⟩
  refine ⟨A, n, c, (List.range n).map fun i => bitOf (f i 0), hcs, hn, hc, by simp, ⟨by simp, ?_⟩, hlen⟩
  intro hn0
  obtain ⟨b, o, hA, hb, hcc⟩ := hcell hn0
  refine ⟨b, o, hA, fun j u hu => ?_⟩
  have hj : j < n := by simpa using (List.getElem?_eq_some_iff.1 hu).1
  obtain ⟨z, e⟩ := hf j hj
  have := hcc j 0 hj (by omega)
  rw [Nat.mul_one, Nat.add_zero, e] at this
  rw [this]
  simp [hj, e] at hu
  rw [← hu]; simp [bitOf]
end
/-- One step of a script. -/
structure OpD where
  who : Int
  kd : Int
  nn : Int
  DA : Option Addr
  dn : Nat
  dc : Nat
  dd : List Nat
  KA : Option Addr
  kn : Nat
  kc : Nat
  kk : List Bool
  tn : Int
  ct : Int
def OpD.cells (o : OpD) : List Value := [.int .i64 o.who, .int .i64 o.kd, .int .i64 o.nn, .slice o.DA o.dn o.dc, .slice o.KA o.kn o.kc, .int .i64 o.tn, .int .i64 o.ct]
structure OpIs (W : World) (o : OpD) : Prop where
  n1 : -9223372036854775808 ≤ o.nn
  n2 : o.nn ≤ 9223372036854775807
  d1 : o.dn = o.dd.length
  d2 : o.dn ≤ o.dc
  d3 : o.dn ≤ 140737488351232
  d4 : Sl W 1 o.DA o.dn (o.dd.map bn)
  k1 : o.kn = o.kk.length
  k2 : o.kn ≤ o.kc
  k3 : o.kn ≤ 140737488351232
  k4 : Sl W 1 o.KA o.kn (o.kk.map .bool)
  d5 : o.dc ≤ maxLen
  k5 : o.kc ≤ maxLen
/-- A script: n steps. -/
structure ScriptIs (W : World) (A : Option Addr) (n : Nat) (O : Nat → OpD) : Prop where
  is : ∀ i, i < n → OpIs W (O i)
  at_ : 0 < n → ∃ b o, A = some ⟨b, o, none⟩ ∧ b < W.heap.size ∧ ∀ i j, i < n → ∀ u, (O i).cells[j]? = some u → W.cell? ⟨b, o + i * 7 + j, none⟩ = some u
section
variable {H : Type} {enc : TypeId × Value → H} {W : World} {base : Nat} {spare : Nat → Bool} {held : Bool}
theorem open_script {fuel : Nat} {cs : List Value} {x : DataW H × List MemPlace} (h : DataW.trod enc Try.prog W base spare held fuel 53 cs = some x)
    {ts : List TypeId} {ds : List (DataW H)} {j : Nat} (hsz : (DataW.weightsEach Try.prog ts ds).all (· ≤ reachBytes) = true) (hj : ts[j]? = some 53) (hd : ds[j]? = some x.1) :
    ∃ (A : Option Addr) (n c : Nat) (O : Nat → OpD), cs = [.slice A n c] ∧ n ≤ c ∧ c ≤ maxLen ∧ ScriptIs W A n O ∧ (n = 0 ∨ ∃ el sp, x.1 = .slice el sp ∧ el.length = n) := by
  obtain ⟨A, n, c, f, hcs, hn, hc, hlen, hcell, hfld⟩ := open_structsW Try.underlying53 Try.underlying61 (by kernel_rfl) (by kernel_rfl) (by decide) h
  have hint : ∀ i k, i < n → (k = 0 ∨ k = 1 ∨ k = 2 ∨ k = 5 ∨ k = 6) → ∃ z, f i k = .int .i64 z ∧ -9223372036854775808 ≤ z ∧ z ≤ 9223372036854775807 := fun i k hi hk => by
    rcases hk with rfl | rfl | rfl | rfl | rfl
    · obtain ⟨y, m, hy, _⟩ := hfld i hi 0 _ rfl
      obtain ⟨z, e, _, wf⟩ := DataW.trod_int Try.underlying3 hy
      exact ⟨z, by simpa using e, bd64 wf⟩
    · obtain ⟨y, m, hy, _⟩ := hfld i hi 1 _ rfl
      obtain ⟨z, e, _, wf⟩ := DataW.trod_int Try.underlying3 hy
      exact ⟨z, by simpa using e, bd64 wf⟩
    · obtain ⟨y, m, hy, _⟩ := hfld i hi 2 _ rfl
      obtain ⟨z, e, _, wf⟩ := DataW.trod_int Try.underlying3 hy
      exact ⟨z, by simpa using e, bd64 wf⟩
    · obtain ⟨y, m, hy, _⟩ := hfld i hi 5 _ rfl
      obtain ⟨z, e, _, wf⟩ := DataW.trod_int Try.underlying3 hy
      exact ⟨z, by simpa using e, bd64 wf⟩
    · obtain ⟨y, m, hy, _⟩ := hfld i hi 6 _ rfl
      obtain ⟨z, e, _, wf⟩ := DataW.trod_int Try.underlying3 hy
      exact ⟨z, by simpa using e, bd64 wf⟩
  have hbytes : ∀ i, i < n → ∃ r : Option Addr × Nat × Nat × List Nat, f i 3 = .slice r.1 r.2.1 r.2.2.1 ∧ r.2.1 = r.2.2.2.length ∧ r.2.1 ≤ r.2.2.1 ∧ r.2.1 ≤ 140737488351232 ∧ Sl W 1 r.1 r.2.1 (r.2.2.2.map bn) ∧ r.2.2.1 ≤ maxLen := fun i hi => by
    obtain ⟨y, m, hy, hw⟩ := hfld i hi 3 _ rfl
    obtain ⟨A', n', c', xs, e', hn', hc', hl', h256, hS, hlen'⟩ := open_bytes Try.underlying34 Try.underlying5 (by kernel_rfl) hy
    refine ⟨⟨A', n', c', xs⟩, by simpa using e', hl', hn', ?_, hS, hc'⟩
    rcases hlen' with h0 | ⟨el, sp, hd2, hl⟩
    · subst h0; exact Nat.zero_le _
    · rw [hd2] at hw
      have h3 := List.all_eq_true.1 hsz _ (DataW.weights_mem_each hj hd _ (hw _ (weights_own Try.underlying34)))
      have h4 : (el.length + sp.length) * Try.prog.bytesOf 5 ≤ reachBytes := of_decide_eq_true h3
      rw [show Try.prog.bytesOf 5 = 1 from by kernel_rfl] at h4
      have e : reachBytes = 140737488351232 := by decide
      show n' ≤ _
      omega
  have hbools : ∀ i, i < n → ∃ r : Option Addr × Nat × Nat × List Bool, f i 4 = .slice r.1 r.2.1 r.2.2.1 ∧ r.2.1 = r.2.2.2.length ∧ r.2.1 ≤ r.2.2.1 ∧ r.2.1 ≤ 140737488351232 ∧ Sl W 1 r.1 r.2.1 (r.2.2.2.map .bool) ∧ r.2.2.1 ≤ maxLen := fun i hi => by
    obtain ⟨y, m, hy, hw⟩ := hfld i hi 4 _ rfl
    obtain ⟨A', n', c', xs, e', hn', hc', hl', hS, hlen'⟩ := open_bools Try.underlying24 Try.underlying4 (by kernel_rfl) hy
    refine ⟨⟨A', n', c', xs⟩, by simpa using e', hl', hn', ?_, hS, hc'⟩
    rcases hlen' with h0 | ⟨el, sp, hd2, hl⟩
    · subst h0; exact Nat.zero_le _
    · rw [hd2] at hw
      have h3 := List.all_eq_true.1 hsz _ (DataW.weights_mem_each hj hd _ (hw _ (weights_own Try.underlying24)))
      have h4 : (el.length + sp.length) * Try.prog.bytesOf 4 ≤ reachBytes := of_decide_eq_true h3
      rw [show Try.prog.bytesOf 4 = 1 from by kernel_rfl] at h4
      have e : reachBytes = 140737488351232 := by decide
      show n' ≤ _
      omega
  have hone : ∀ i, i < n → ∃ o : OpD, OpIs W o ∧ ∀ j u, o.cells[j]? = some u → f i j = u := fun i hi => by
    obtain ⟨z0, e0, -⟩ := hint i 0 hi (by simp)
    obtain ⟨z1, e1, -⟩ := hint i 1 hi (by simp)
    obtain ⟨z2, e2, b2⟩ := hint i 2 hi (by simp)
    obtain ⟨z5, e5, -⟩ := hint i 5 hi (by simp)
    obtain ⟨z6, e6, -⟩ := hint i 6 hi (by simp)
    obtain ⟨⟨DA, dn, dc, dd⟩, e3, d1, d2, d3, d4, d5⟩ := hbytes i hi
    obtain ⟨⟨KA, kn, kc, kk⟩, e4, k1, k2, k3, k4, k5⟩ := hbools i hi
    refine ⟨⟨z0, z1, z2, DA, dn, dc, dd, KA, kn, kc, kk, z5, z6⟩, ⟨b2.1, b2.2, d1, d2, d3, d4, k1, k2, k3, k4, d5, k5⟩, ?_⟩
    intro j u hu
    match j, hu with
    | 0, hu => cases hu; exact e0
    | 1, hu => cases hu; exact e1
    | 2, hu => cases hu; exact e2
    | 3, hu => cases hu; exact e3
    | 4, hu => cases hu; exact e4
    | 5, hu => cases hu; exact e5
    | 6, hu => cases hu; exact e6
    | j + 7, hu => simp [OpD.cells] at hu
  obtain ⟨O, hO⟩ : ∃ O : Nat → OpD, ∀ i, i < n → OpIs W (O i) ∧ ∀ j u, (O i).cells[j]? = some u → f i j = u :=
    ⟨fun i => if hi : i < n then Classical.choose (hone i hi) else ⟨0, 0, 0, none, 0, 0, [], none, 0, 0, [], 0, 0⟩, fun i hi => by simp only [dif_pos hi]; exact Classical.choose_spec (hone i hi)⟩
  refine ⟨A, n, c, O, hcs, hn, hc, ⟨fun i hi => (hO i hi).1, fun h0 => ?_⟩, hlen⟩
  obtain ⟨b, o, hA, hb, hcc⟩ := hcell h0
  refine ⟨b, o, hA, hb, fun i j hi u hu => ?_⟩
  have hj : j < 7 := by have := (List.getElem?_eq_some_iff.1 hu).1; simpa [OpD.cells] using this
  rw [← (hO i hi).2 j u hu]
  exact hcc i j hi hj
end
end Go.Proofs.Ythcklgelbckffaa
