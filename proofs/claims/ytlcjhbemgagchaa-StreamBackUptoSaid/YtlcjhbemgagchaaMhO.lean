/-
  Texts merged into one, to keep the claim small: BulkL, PrO, PrO2, PdR.
-/
import Derived.Test.YtlcjhbemgagchaaMc2
import Derived.Test.YtlcjhbemgagchaaMc5
import Derived.Test.YtlcjhbemgagchaaMc14
import Derived.Test.YtlcjhbemgagchaaMc0
import Derived.Test.YtlcjhbemgagchaaRows
import Derived.Test.YtlcjhbemgagchaaChecked
import Derived.Test.YtlcjhbemgagchaaMc19
import Derived.Test.YtlcjhbemgagchaaMc24
import Derived.Test.YtlcjhbemgagchaaMc33
section
/-
  A list of lists of bytes, opened under the bound of the second form.
-/
namespace Go.Proofs.Ytlcjhbemgagchaa
open Go.ChangeShapes Go.WideShapes Go.ChangeAt Go.RowKit Go.Deep Go.Joins
set_option linter.unusedVariables false

section
variable {H : Type} {enc : TypeId × Value → H} {P : Program} {w : World} {base : Nat} {spare : Nat → Bool} {held : Bool}
theorem bytes_bulk {n : Nat} {d : DataW H} (h : n = 0 ∨ ∃ el sp, d = .slice el sp ∧ el.length = n) : n + 1 ≤ Rows.uptoBulk d := by
  rcases h with rfl | ⟨el, sp, rfl, hel⟩
  · have := bulk_pos d; omega
  · have h2 := bulk_slice el sp
    have h3 := bulk_len el
    omega
end
end Go.Proofs.Ytlcjhbemgagchaa
end

section
/-
  Openings: entries, contracts, replies as arguments. (printed by pr_open.py)
-/
namespace Go.Proofs.Ytlcjhbemgagchaa
open Go.ChangeShapes Go.WideShapes Go.ChangeAt Go.RowKit Go.Deep Go.Joins
set_option linter.unusedVariables false
set_option linter.unusedSimpArgs false
theorem strOf_is (t : ByteArray) : ∃ xs : List Nat, strOf xs = t ∧ xs.length = t.data.toList.length ∧ ∀ x ∈ xs, x < 256 := by
  refine ⟨t.data.toList.map UInt8.toNat, ?_, by simp, fun x hx => ?_⟩
  · unfold strOf
    rw [List.map_map]
    have : (UInt8.ofNat ∘ UInt8.toNat) = id := by funext b; simp
    rw [this, List.map_id, Array.toArray_toList]
  · obtain ⟨b, -, rfl⟩ := List.mem_map.1 hx
    exact b.toNat_lt
theorem open_intsL {H : Type} {enc : TypeId × Value → H} {P : Program} {w : World} {base : Nat} {spare : Nat → Bool} {held : Bool} {t e : TypeId} {fuel : Nat} {cs : List Value} {x : DataW H × List MemPlace} (ht : P.underlying t = some (.slice e)) (he : P.underlying e = some (.int .i64)) (hC : P.cellsOf e = 1)
    (h : DataW.trod enc P w base spare held fuel t cs = some x) :
    ∃ (A : Option Addr) (n c : Nat) (xs : List Int), cs = [.slice A n c] ∧ n ≤ c ∧ c ≤ maxLen ∧ n = xs.length ∧ Sl w 1 A n (xs.map fun z => .int .i64 z) ∧ (n = 0 ∨ ∃ el sp, x.1 = .slice el sp ∧ el.length = n) := by
  obtain ⟨A, n, c, f, hcs, hn, hc, hlen, hcell, hfld⟩ := open_ones ht hC h
  have hf : ∀ i, i < n → ∃ z : Int, f i 0 = .int .i64 z := fun i hi => by
    obtain ⟨y, m, hy⟩ := hfld i hi
    obtain ⟨z, e, _⟩ := DataW.trod_int he hy
    exact ⟨z, by simpa using e⟩
  refine ⟨A, n, c, (List.range n).map fun i => intOf (f i 0), hcs, hn, hc, by simp, ⟨by simp, ?_⟩, hlen⟩
  intro hn0
  obtain ⟨b, o, hA, hb, hcc⟩ := hcell hn0
  refine ⟨b, o, hA, fun j u hu => ?_⟩
  have hj : j < n := by simpa using (List.getElem?_eq_some_iff.1 hu).1
  obtain ⟨z, e⟩ := hf j hj
  have := hcc j 0 hj (by omega)
  rw [Nat.mul_one, Nat.add_zero, e] at this
  rw [this]
  simp [hj, e] at hu
  rw [← hu]; simp [intOf]
section
variable {H : Type} {enc : TypeId × Value → H} {W : World} {base : Nat} {spare : Nat → Bool} {held : Bool}
theorem fld {fs : Array Field} {ys : List (DataW H × List MemPlace)} {n' : Nat} {cs : List Value} {P : Program} (hf : ∀ (i : Nat) (f : Field), fs[i]? = some f → DataW.trod enc P W base spare held n' f.type ((cs.drop f.offset).take (P.cellsOf f.type)) = ys[i]?)
    {i : Nat} {f : Field} (hi : fs[i]? = some f) (hl : ys.length = fs.size) {t : TypeId} {o k : Nat} (ht : f.type = t) (ho : f.offset = o) (hk : P.cellsOf t = k) : ∃ y, ys[i]? = some y ∧ DataW.trod enc P W base spare held n' t ((cs.drop o).take k) = some y := by
  have h := hf i f hi
  rw [ht, ho, hk] at h
  have hil : i < ys.length := by rw [hl]; exact (Array.getElem?_eq_some_iff.1 hi).1
  exact ⟨ys[i], List.getElem?_eq_getElem hil, by rw [h]; exact List.getElem?_eq_getElem hil⟩
/-- A slice of numbers whose weights are within reach. -/
theorem open_ints {fuel : Nat} {cs : List Value} {x : DataW H × List MemPlace} (h : DataW.trod enc Try.prog W base spare held fuel 24 cs = some x) (hsz : ∀ v ∈ x.1.weights Try.prog 24, v ≤ reachBytes) :
    ∃ (A : Option Addr) (n c : Nat) (xs : List Int), cs = [.slice A n c] ∧ Sl W 1 A n (xs.map iv) ∧ n ≤ 17592186043904 ∧ n ≤ c ∧ c ≤ 9223372036854775807 := by
  obtain ⟨A, n, c, xs, hcs, hn, hc, hl, hS, hlen⟩ := open_intsL Try.underlying24 Try.underlying3 (by kernel_rfl) h
  refine ⟨A, n, c, xs, hcs, hS, ?_, hn, by unfold maxLen at hc; omega⟩
  rcases hlen with h0 | ⟨el, sp, hd, hl2⟩
  · subst h0; exact Nat.zero_le _
  · rw [hd] at hsz
    have h4 := hsz _ (weights_own Try.underlying24)
    rw [show Try.prog.bytesOf 3 = 8 from by kernel_rfl] at h4
    have e : reachBytes = 140737488351232 := by decide
    omega
theorem open_u64 {t : TypeId} (ht : Try.prog.underlying t = some (.int .u64)) {fuel : Nat} {v : Value} {x : DataW H × List MemPlace} (h : DataW.trod enc Try.prog W base spare held fuel t [v] = some x) : ∃ n : Nat, v = .int .u64 (n : Int) ∧ n < U64 := by
  obtain ⟨z, e, _, wf⟩ := DataW.trod_int ht h
  have b := bdu64 wf
  refine ⟨z.toNat, ?_, by unfold U64; omega⟩
  have e2 : v = .int .u64 z := by simpa using e
  rw [e2, show ((z.toNat : Nat) : Int) = z by omega]
theorem open_i64 {t : TypeId} (ht : Try.prog.underlying t = some (.int .i64)) {fuel : Nat} {v : Value} {x : DataW H × List MemPlace} (h : DataW.trod enc Try.prog W base spare held fuel t [v] = some x) : ∃ z : Int, v = .int .i64 z ∧ -9223372036854775808 ≤ z ∧ z ≤ 9223372036854775807 := by
  obtain ⟨z, e, _, wf⟩ := DataW.trod_int ht h
  exact ⟨z, by simpa using e, bd64 wf⟩
theorem open_entries {fuel : Nat} {cs : List Value} {x : DataW H × List MemPlace} (h : DataW.trod enc Try.prog W base spare held fuel 27 cs = some x) (hsz : ∀ v ∈ x.1.weights Try.prog 27, v ≤ reachBytes) :
    ∃ (A : Option Addr) (n c : Nat) (es : List ER), cs = [.slice A n c] ∧ n ≤ c ∧ c ≤ 9223372036854775807 ∧ n ≤ 2513169434843 ∧ Sl W 5 A n (es.flatMap ER.cells) ∧ ∀ e ∈ es, e.at_ W ∧ e.wf := by
  obtain ⟨A, n, c, f, hcs, hn, hc, hlen, hcell, hfld⟩ := open_structsW Try.underlying27 Try.underlying26 (by kernel_rfl) (by kernel_rfl) (by decide) h
  have hone : ∀ i, i < n → ∃ e : ER, (e.at_ W ∧ e.wf) ∧ ∀ j u, e.cells[j]? = some u → f i j = u := fun i hi => by
    obtain ⟨y0, m0, hy0, -⟩ := hfld i hi 0 _ rfl
    obtain ⟨z0, e0, -⟩ := open_i64 Try.underlying3 hy0
    obtain ⟨y1, m1, hy1, -⟩ := hfld i hi 1 _ rfl
    obtain ⟨z1, e1, -⟩ := open_i64 Try.underlying3 hy1
    obtain ⟨y2, m2, hy2, -⟩ := hfld i hi 2 _ rfl
    obtain ⟨z2, e2, b2⟩ := open_u64 Try.underlying23 hy2
    obtain ⟨y3, m3, hy3, -⟩ := hfld i hi 3 _ rfl
    obtain ⟨z3, e3, b3⟩ := open_u64 Try.underlying23 hy3
    obtain ⟨y4, m4, hy4, hw4⟩ := hfld i hi 4 _ rfl
    obtain ⟨A', n', c', xs, e4, hS, k1, k2, k3⟩ := open_ints hy4 (fun v hv => hsz v (hw4 v hv))
    refine ⟨⟨z0, z1, z2, z3, A', n', c', xs⟩, ⟨⟨hS, k1, k2, k3⟩, ⟨b2, b3⟩⟩, fun j u hu => ?_⟩
    match j, hu with
    | 0, hu => cases hu; exact e0
    | 1, hu => cases hu; exact e1
    | 2, hu => cases hu; exact e2
    | 3, hu => cases hu; exact e3
    | 4, hu => cases hu; simpa using e4
    | j + 5, hu => simp [ER.cells] at hu
  obtain ⟨O, hO⟩ : ∃ O : Nat → ER, ∀ i, i < n → ((O i).at_ W ∧ (O i).wf) ∧ ∀ j u, (O i).cells[j]? = some u → f i j = u :=
    ⟨fun i => if hi : i < n then Classical.choose (hone i hi) else ⟨0, 0, 0, 0, none, 0, 0, []⟩, fun i hi => by simp only [dif_pos hi]; exact Classical.choose_spec (hone i hi)⟩
  have hl : ((List.range n).map O).length = n := by simp
  refine ⟨A, n, c, (List.range n).map O, hcs, hn, by unfold maxLen at hc; omega, ?_, ⟨by rw [rows_len ER.cells 5 ER.cells_len, hl], fun hn0 => ?_⟩, fun e he => ?_⟩
  · rcases hlen with h0 | ⟨el, sp, hd, hl2⟩
    · subst h0; exact Nat.zero_le _
    · rw [hd] at hsz
      have h4 := hsz _ (weights_own Try.underlying27)
      rw [show Try.prog.bytesOf 26 = 56 from by kernel_rfl] at h4
      have e : reachBytes = 140737488351232 := by decide
      omega
  · obtain ⟨b, o, hA, hb, hcc⟩ := hcell hn0
    refine ⟨b, o, hA, fun j u hu => ?_⟩
    have hjl : j < n * 5 := by
      have := (List.getElem?_eq_some_iff.1 hu).1
      rwa [rows_len ER.cells 5 ER.cells_len, hl] at this
    have hi : j / 5 < n := by omega
    have hk : j % 5 < 5 := by omega
    have hj : j / 5 * 5 + j % 5 = j := by omega
    rw [← hj, rows_get ER.cells 5 ER.cells_len _ _ _ (by rw [hl]; exact hi) hk] at hu
    have hO' : ((List.range n).map O)[j / 5]'(by rw [hl]; exact hi) = O (j / 5) := by simp
    rw [hO'] at hu
    have h1 := hcc (j / 5) (j % 5) hi hk
    rw [(hO _ hi).2 _ _ hu] at h1
    rw [← hj, ← Nat.add_assoc]
    exact h1
  · obtain ⟨i, hi, rfl⟩ := List.mem_map.1 he
    exact (hO i (List.mem_range.1 hi)).1

set_option maxRecDepth 20000 in
theorem open_contract {fuel : Nat} {cs : List Value} {x : DataW H × List MemPlace} (h : DataW.trod enc Try.prog W base spare held fuel 29 cs = some x) (hsz : ∀ v ∈ x.1.weights Try.prog 29, v ≤ reachBytes) :
    ∃ k : CR, cs = k.cells ∧ k.at_ W ∧ k.wf := by
  obtain ⟨ys, n', _, hx, hcl, hyl, hf⟩ := DataW.trod_struct Try.underlying29 h
  rw [show Try.prog.cellsOf 29 = 11 from by kernel_rfl] at hcl
  have hx1 : x.1 = .agg (ys.map (·.1)) := by rw [hx]
  match cs, hcl with
  | [c0, c1, c2, c3, c4, c5, c6, c7, c8, c9, c10], _ =>
    obtain ⟨y0, g0, t0⟩ := fld hf (i := 0) rfl hyl rfl rfl (by kernel_rfl : Try.prog.cellsOf 3 = 1)
    obtain ⟨z0, e0, b0⟩ := open_i64 Try.underlying3 (show DataW.trod enc Try.prog W base spare held n' 3 [c0] = some y0 from t0)
    obtain ⟨y1, g1, t1⟩ := fld hf (i := 1) rfl hyl rfl rfl (by kernel_rfl : Try.prog.cellsOf 3 = 1)
    obtain ⟨z1, e1, b1⟩ := open_i64 Try.underlying3 (show DataW.trod enc Try.prog W base spare held n' 3 [c1] = some y1 from t1)
    obtain ⟨y2, g2, t2⟩ := fld hf (i := 2) rfl hyl rfl rfl (by kernel_rfl : Try.prog.cellsOf 3 = 1)
    obtain ⟨z2, e2, b2⟩ := open_i64 Try.underlying3 (show DataW.trod enc Try.prog W base spare held n' 3 [c2] = some y2 from t2)
    obtain ⟨y3, g3, t3⟩ := fld hf (i := 3) rfl hyl rfl rfl (by kernel_rfl : Try.prog.cellsOf 3 = 1)
    obtain ⟨z3, e3, b3⟩ := open_i64 Try.underlying3 (show DataW.trod enc Try.prog W base spare held n' 3 [c3] = some y3 from t3)
    obtain ⟨y4, g4, t4⟩ := fld hf (i := 4) rfl hyl rfl rfl (by kernel_rfl : Try.prog.cellsOf 3 = 1)
    obtain ⟨z4, e4, b4⟩ := open_i64 Try.underlying3 (show DataW.trod enc Try.prog W base spare held n' 3 [c4] = some y4 from t4)
    obtain ⟨y5, g5, t5⟩ := fld hf (i := 5) rfl hyl rfl rfl (by kernel_rfl : Try.prog.cellsOf 3 = 1)
    obtain ⟨z5, e5, b5⟩ := open_i64 Try.underlying3 (show DataW.trod enc Try.prog W base spare held n' 3 [c5] = some y5 from t5)
    obtain ⟨y6, g6, t6⟩ := fld hf (i := 6) rfl hyl rfl rfl (by kernel_rfl : Try.prog.cellsOf 23 = 1)
    obtain ⟨z6, e6, b6⟩ := open_u64 Try.underlying23 (show DataW.trod enc Try.prog W base spare held n' 23 [c6] = some y6 from t6)
    obtain ⟨y7, g7, t7⟩ := fld hf (i := 7) rfl hyl rfl rfl (by kernel_rfl : Try.prog.cellsOf 23 = 1)
    obtain ⟨z7, e7, b7⟩ := open_u64 Try.underlying23 (show DataW.trod enc Try.prog W base spare held n' 23 [c7] = some y7 from t7)
    obtain ⟨y8, g8, t8⟩ := fld hf (i := 8) rfl hyl rfl rfl (by kernel_rfl : Try.prog.cellsOf 23 = 1)
    obtain ⟨z8, e8, b8⟩ := open_u64 Try.underlying23 (show DataW.trod enc Try.prog W base spare held n' 23 [c8] = some y8 from t8)
    obtain ⟨y9, g9, t9⟩ := fld hf (i := 9) rfl hyl rfl rfl (by kernel_rfl : Try.prog.cellsOf 3 = 1)
    obtain ⟨z9, e9, b9⟩ := open_i64 Try.underlying3 (show DataW.trod enc Try.prog W base spare held n' 3 [c9] = some y9 from t9)
    obtain ⟨y10, g10, t10⟩ := fld hf (i := 10) rfl hyl rfl rfl (by kernel_rfl : Try.prog.cellsOf 27 = 1)
    obtain ⟨A, n, c, es, e10, k1, k2, k3, k4, k5⟩ := open_entries (show DataW.trod enc Try.prog W base spare held n' 27 [c10] = some y10 from t10) (fun v hv => hsz v (by rw [hx1]; exact weights_agg (j := 10) Try.underlying29 rfl (by rw [List.getElem?_map, g10]; rfl) hv))
    have e10' : c10 = .slice A n c := by simpa using e10
    subst e0 e1 e2 e3 e4 e5 e6 e7 e8 e9 e10'
    exact ⟨⟨z0, z1, z2, z3, z4, z5, z6, z7, z8, z9, A, n, c, es⟩, rfl, ⟨k4, k3, ⟨k1, k2⟩, fun e he => (k5 e he).1⟩, ⟨b6, b7, b8, fun e he => (k5 e he).2⟩⟩
def RR.cells (r : RR) : List Value := [.int .i64 r.id, .int .i64 r.err, .int .i64 r.num, .int .u64 (r.co : Int), .slice r.A r.n r.c, .string (strOf r.txt), .int .u32 (r.bits : Int)] ++ r.k.cells
set_option maxRecDepth 20000 in
theorem open_reply {fuel : Nat} {cs : List Value} {x : DataW H × List MemPlace} (h : DataW.trod enc Try.prog W base spare held fuel 35 cs = some x) (hsz : ∀ v ∈ x.1.weights Try.prog 35, v ≤ reachBytes) :
    ∃ r : RR, cs = r.cells ∧ r.at_ W ∧ r.wf := by
  obtain ⟨ys, n', _, hx, hcl, hyl, hf⟩ := DataW.trod_struct Try.underlying35 h
  rw [show Try.prog.cellsOf 35 = 18 from by kernel_rfl] at hcl
  have hx1 : x.1 = .agg (ys.map (·.1)) := by rw [hx]
  match cs, hcl with
  | [c0, c1, c2, c3, c4, c5, c6, c7, c8, c9, c10, c11, c12, c13, c14, c15, c16, c17], _ =>
    obtain ⟨y0, g0, t0⟩ := fld hf (i := 0) rfl hyl rfl rfl (by kernel_rfl : Try.prog.cellsOf 3 = 1)
    obtain ⟨z0, e0, b0⟩ := open_i64 Try.underlying3 (show DataW.trod enc Try.prog W base spare held n' 3 [c0] = some y0 from t0)
    obtain ⟨y1, g1, t1⟩ := fld hf (i := 1) rfl hyl rfl rfl (by kernel_rfl : Try.prog.cellsOf 32 = 1)
    obtain ⟨z1, e1, b1⟩ := open_i64 Try.underlying32 (show DataW.trod enc Try.prog W base spare held n' 32 [c1] = some y1 from t1)
    obtain ⟨y2, g2, t2⟩ := fld hf (i := 2) rfl hyl rfl rfl (by kernel_rfl : Try.prog.cellsOf 3 = 1)
    obtain ⟨z2, e2, b2⟩ := open_i64 Try.underlying3 (show DataW.trod enc Try.prog W base spare held n' 3 [c2] = some y2 from t2)
    obtain ⟨y3, g3, t3⟩ := fld hf (i := 3) rfl hyl rfl rfl (by kernel_rfl : Try.prog.cellsOf 23 = 1)
    obtain ⟨z3, e3, b3⟩ := open_u64 Try.underlying23 (show DataW.trod enc Try.prog W base spare held n' 23 [c3] = some y3 from t3)
    obtain ⟨y4, g4, t4⟩ := fld hf (i := 4) rfl hyl rfl rfl (by kernel_rfl : Try.prog.cellsOf 24 = 1)
    obtain ⟨A, n, c, xs, e4, hS, k1, k2, k3⟩ := open_ints (show DataW.trod enc Try.prog W base spare held n' 24 [c4] = some y4 from t4) (fun v hv => hsz v (by rw [hx1]; exact weights_agg (j := 4) Try.underlying35 rfl (by rw [List.getElem?_map, g4]; rfl) hv))
    have e4' : c4 = .slice A n c := by simpa using e4
    obtain ⟨y5, g5, t5⟩ := fld hf (i := 5) rfl hyl rfl rfl (by kernel_rfl : Try.prog.cellsOf 9 = 1)
    obtain ⟨s, e5, -, -⟩ := DataW.trod_string Try.underlying9 (show DataW.trod enc Try.prog W base spare held n' 9 [c5] = some y5 from t5)
    obtain ⟨txt, rfl, -, h256⟩ := strOf_is s
    have e5' : c5 = .string (strOf txt) := by simpa using e5
    obtain ⟨y6, g6, t6⟩ := fld hf (i := 6) rfl hyl rfl rfl (by kernel_rfl : Try.prog.cellsOf 33 = 1)
    obtain ⟨zb, e6, -, wfb⟩ := DataW.trod_int Try.underlying33 (show DataW.trod enc Try.prog W base spare held n' 33 [c6] = some y6 from t6)
    have bb : 0 ≤ zb ∧ zb ≤ 4294967295 := by simpa [Lit.wf, IntKind.min, IntKind.max, IntKind.signed, IntKind.bits] using wfb
    have e6' : c6 = .int .u32 ((zb.toNat : Nat) : Int) := by rw [show ((zb.toNat : Nat) : Int) = zb by omega]; simpa using e6
    obtain ⟨y7, g7, t7⟩ := fld hf (i := 7) rfl hyl rfl rfl (by kernel_rfl : Try.prog.cellsOf 29 = 11)
    obtain ⟨k, e7, k7, w7⟩ := open_contract (show DataW.trod enc Try.prog W base spare held n' 29 [c7, c8, c9, c10, c11, c12, c13, c14, c15, c16, c17] = some y7 from t7) (fun v hv => hsz v (by rw [hx1]; exact weights_agg (j := 7) Try.underlying35 rfl (by rw [List.getElem?_map, g7]; rfl) hv))
    subst e0 e1 e2 e3 e4' e5' e6'
    refine ⟨⟨z0, z1, z2, z3, A, n, c, xs, txt, zb.toNat, k⟩, ?_, ⟨hS, k1, ⟨k2, k3⟩, k7⟩, ⟨b3, (by show zb.toNat < 4294967296; omega), w7, h256⟩⟩
    show _ = [_, _, _, _, _, _, _] ++ k.cells
    rw [← e7]
    rfl
end
end Go.Proofs.Ytlcjhbemgagchaa
end

section
/-
  Opening: a command as an argument. (printed by pr_open2.py)
-/
namespace Go.Proofs.Ytlcjhbemgagchaa
open Go.ChangeShapes Go.WideShapes Go.ChangeAt Go.RowKit Go.Deep Go.Joins
set_option linter.unusedVariables false
set_option linter.unusedSimpArgs false
section
variable {H : Type} {enc : TypeId × Value → H} {W : World} {base : Nat} {spare : Nat → Bool} {held : Bool}
set_option maxRecDepth 20000 in
theorem open_entry {fuel : Nat} {cs : List Value} {x : DataW H × List MemPlace} (h : DataW.trod enc Try.prog W base spare held fuel 26 cs = some x) (hsz : ∀ v ∈ x.1.weights Try.prog 26, v ≤ reachBytes) :
    ∃ e : ER, cs = e.cells ∧ e.at_ W ∧ e.wf := by
  obtain ⟨ys, n', _, hx, hcl, hyl, hf⟩ := DataW.trod_struct Try.underlying26 h
  rw [show Try.prog.cellsOf 26 = 5 from by kernel_rfl] at hcl
  have hx1 : x.1 = .agg (ys.map (·.1)) := by rw [hx]
  match cs, hcl with
  | [c0, c1, c2, c3, c4], _ =>
    obtain ⟨y0, g0, t0⟩ := fld hf (i := 0) rfl hyl rfl rfl (by kernel_rfl : Try.prog.cellsOf 3 = 1)
    obtain ⟨z0, e0, b0⟩ := open_i64 Try.underlying3 (show DataW.trod enc Try.prog W base spare held n' 3 [c0] = some y0 from t0)
    obtain ⟨y1, g1, t1⟩ := fld hf (i := 1) rfl hyl rfl rfl (by kernel_rfl : Try.prog.cellsOf 3 = 1)
    obtain ⟨z1, e1, b1⟩ := open_i64 Try.underlying3 (show DataW.trod enc Try.prog W base spare held n' 3 [c1] = some y1 from t1)
    obtain ⟨y2, g2, t2⟩ := fld hf (i := 2) rfl hyl rfl rfl (by kernel_rfl : Try.prog.cellsOf 23 = 1)
    obtain ⟨z2, e2, b2⟩ := open_u64 Try.underlying23 (show DataW.trod enc Try.prog W base spare held n' 23 [c2] = some y2 from t2)
    obtain ⟨y3, g3, t3⟩ := fld hf (i := 3) rfl hyl rfl rfl (by kernel_rfl : Try.prog.cellsOf 23 = 1)
    obtain ⟨z3, e3, b3⟩ := open_u64 Try.underlying23 (show DataW.trod enc Try.prog W base spare held n' 23 [c3] = some y3 from t3)
    obtain ⟨y4, g4, t4⟩ := fld hf (i := 4) rfl hyl rfl rfl (by kernel_rfl : Try.prog.cellsOf 24 = 1)
    obtain ⟨A, n, c, xs, e4, hS, k1, k2, k3⟩ := open_ints (show DataW.trod enc Try.prog W base spare held n' 24 [c4] = some y4 from t4) (fun v hv => hsz v (by rw [hx1]; exact weights_agg (j := 4) Try.underlying26 rfl (by rw [List.getElem?_map, g4]; rfl) hv))
    have e4' : c4 = .slice A n c := by simpa using e4
    subst e0 e1 e2 e3 e4'
    exact ⟨⟨z0, z1, z2, z3, A, n, c, xs⟩, rfl, ⟨hS, k1, ⟨k2, k3⟩⟩, ⟨b2, b3⟩⟩
def KC.cells (r : KC) : List Value := [.int .i64 r.id, .int .i64 r.kind, .string (strOf r.name), .int .i64 r.to_, .int .u64 (r.co : Int), .int .i64 r.item, .int .i64 r.num, .int .i64 r.of_] ++ (r.e.cells ++ r.k.cells)
set_option maxRecDepth 20000 in
theorem open_command {fuel : Nat} {cs : List Value} {x : DataW H × List MemPlace} (h : DataW.trod enc Try.prog W base spare held fuel 31 cs = some x) (hsz : ∀ v ∈ x.1.weights Try.prog 31, v ≤ reachBytes) :
    ∃ r : KC, cs = r.cells ∧ r.at_ W ∧ r.wf := by
  obtain ⟨ys, n', _, hx, hcl, hyl, hf⟩ := DataW.trod_struct Try.underlying31 h
  rw [show Try.prog.cellsOf 31 = 24 from by kernel_rfl] at hcl
  have hx1 : x.1 = .agg (ys.map (·.1)) := by rw [hx]
  match cs, hcl with
  | [c0, c1, c2, c3, c4, c5, c6, c7, c8, c9, c10, c11, c12, c13, c14, c15, c16, c17, c18, c19, c20, c21, c22, c23], _ =>
    obtain ⟨y0, g0, t0⟩ := fld hf (i := 0) rfl hyl rfl rfl (by kernel_rfl : Try.prog.cellsOf 3 = 1)
    obtain ⟨z0, e0, b0⟩ := open_i64 Try.underlying3 (show DataW.trod enc Try.prog W base spare held n' 3 [c0] = some y0 from t0)
    obtain ⟨y1, g1, t1⟩ := fld hf (i := 1) rfl hyl rfl rfl (by kernel_rfl : Try.prog.cellsOf 3 = 1)
    obtain ⟨z1, e1, b1⟩ := open_i64 Try.underlying3 (show DataW.trod enc Try.prog W base spare held n' 3 [c1] = some y1 from t1)
    obtain ⟨y2, g2, t2⟩ := fld hf (i := 2) rfl hyl rfl rfl (by kernel_rfl : Try.prog.cellsOf 9 = 1)
    obtain ⟨s, e2, -, -⟩ := DataW.trod_string Try.underlying9 (show DataW.trod enc Try.prog W base spare held n' 9 [c2] = some y2 from t2)
    obtain ⟨txt, rfl, -, h256⟩ := strOf_is s
    have e2' : c2 = .string (strOf txt) := by simpa using e2
    obtain ⟨y3, g3, t3⟩ := fld hf (i := 3) rfl hyl rfl rfl (by kernel_rfl : Try.prog.cellsOf 3 = 1)
    obtain ⟨z3, e3, b3⟩ := open_i64 Try.underlying3 (show DataW.trod enc Try.prog W base spare held n' 3 [c3] = some y3 from t3)
    obtain ⟨y4, g4, t4⟩ := fld hf (i := 4) rfl hyl rfl rfl (by kernel_rfl : Try.prog.cellsOf 23 = 1)
    obtain ⟨z4, e4, b4⟩ := open_u64 Try.underlying23 (show DataW.trod enc Try.prog W base spare held n' 23 [c4] = some y4 from t4)
    obtain ⟨y5, g5, t5⟩ := fld hf (i := 5) rfl hyl rfl rfl (by kernel_rfl : Try.prog.cellsOf 3 = 1)
    obtain ⟨z5, e5, b5⟩ := open_i64 Try.underlying3 (show DataW.trod enc Try.prog W base spare held n' 3 [c5] = some y5 from t5)
    obtain ⟨y6, g6, t6⟩ := fld hf (i := 6) rfl hyl rfl rfl (by kernel_rfl : Try.prog.cellsOf 3 = 1)
    obtain ⟨z6, e6, b6⟩ := open_i64 Try.underlying3 (show DataW.trod enc Try.prog W base spare held n' 3 [c6] = some y6 from t6)
    obtain ⟨y7, g7, t7⟩ := fld hf (i := 7) rfl hyl rfl rfl (by kernel_rfl : Try.prog.cellsOf 3 = 1)
    obtain ⟨z7, e7, b7⟩ := open_i64 Try.underlying3 (show DataW.trod enc Try.prog W base spare held n' 3 [c7] = some y7 from t7)
    obtain ⟨y8, g8, t8⟩ := fld hf (i := 8) rfl hyl rfl rfl (by kernel_rfl : Try.prog.cellsOf 26 = 5)
    obtain ⟨e, e8, a8, w8⟩ := open_entry (show DataW.trod enc Try.prog W base spare held n' 26 [c8, c9, c10, c11, c12] = some y8 from t8) (fun v hv => hsz v (by rw [hx1]; exact weights_agg (j := 8) Try.underlying31 rfl (by rw [List.getElem?_map, g8]; rfl) hv))
    obtain ⟨y9, g9, t9⟩ := fld hf (i := 9) rfl hyl rfl rfl (by kernel_rfl : Try.prog.cellsOf 29 = 11)
    obtain ⟨k, e9, a9, w9⟩ := open_contract (show DataW.trod enc Try.prog W base spare held n' 29 [c13, c14, c15, c16, c17, c18, c19, c20, c21, c22, c23] = some y9 from t9) (fun v hv => hsz v (by rw [hx1]; exact weights_agg (j := 9) Try.underlying31 rfl (by rw [List.getElem?_map, g9]; rfl) hv))
    subst e0 e1 e2' e3 e4 e5 e6 e7
    refine ⟨⟨z0, z1, txt, z3, z4, z5, z6, z7, e, k⟩, ?_, ⟨a8, a9⟩, ⟨b4, w8, w9, h256⟩⟩
    show _ = [_, _, _, _, _, _, _, _] ++ (e.cells ++ k.cells)
    rw [← e8, ← e9]
    rfl
end
end Go.Proofs.Ytlcjhbemgagchaa
end

section
/-
  proto: how long forms are; verdicts of bytes that have a form. No program in sight.
-/
namespace Go.Proofs.Ytlcjhbemgagchaa
set_option linter.unusedVariables false
set_option linter.unusedSimpArgs false
theorem KVer.ok {bs : List Nat} {c q : KC} {er : Int} (h : KVer bs c er) (hq : KForm bs q) (hl : bs.length ≤ 512) : er = 0 ∧ c.like q ∧ KForm bs c := by
  rcases h with ⟨h1, rfl, rfl⟩ | ⟨h1, h2, rfl, rfl⟩ | ⟨h1, rfl, h2⟩
  · omega
  · exact (h2 _ hq).elim
  · exact ⟨rfl, (cmdS_of h2).symm.trans (cmdS_of hq), h2⟩
theorem RVer.ok {bs : List Nat} {c q : RR} {er : Int} (h : RVer bs c er) (hq : RForm bs q) (hl : bs.length ≤ 65536) : er = 0 ∧ c.like q ∧ RForm bs c := by
  rcases h with ⟨h1, rfl, rfl⟩ | ⟨h1, h2, rfl, rfl⟩ | ⟨h1, rfl, h2⟩
  · omega
  · exact (h2 _ hq).elim
  · exact ⟨rfl, (repS_of h2).symm.trans (repS_of hq), h2⟩
theorem KVer.cases {bs : List Nat} {c : KC} {er : Int} (h : KVer bs c er) : (er = 0 ∧ KForm bs c) ∨ (er ≠ 0 ∧ c = zeroC) := by
  rcases h with ⟨h1, rfl, rfl⟩ | ⟨h1, h2, rfl, rfl⟩ | ⟨h1, rfl, h2⟩
  · exact .inr ⟨by decide, rfl⟩
  · exact .inr ⟨by decide, rfl⟩
  · exact .inl ⟨rfl, h2⟩
theorem RVer.cases {bs : List Nat} {c : RR} {er : Int} (h : RVer bs c er) : (er = 0 ∧ RForm bs c) ∨ (er ≠ 0 ∧ c = zeroR) := by
  rcases h with ⟨h1, rfl, rfl⟩ | ⟨h1, h2, rfl, rfl⟩ | ⟨h1, rfl, h2⟩
  · exact .inr ⟨by decide, rfl⟩
  · exact .inr ⟨by decide, rfl⟩
  · exact .inl ⟨rfl, h2⟩
theorem Nv_max {k n : Nat} (h : n < 128 ^ (k + 1)) : (Nv n).length ≤ k + 1 := by
  unfold Nv
  split
  · simp
  · exact (short_len k n h).2
/-- What a field costs. -/
def fcost (v : List Nat) : Nat := if v.length = 0 then 0 else v.length + 1 + (short v.length).length
theorem fcost_le {v : List Nat} {m : Nat} (h : v.length ≤ m) (hm : m < 128) : fcost v ≤ m + 2 := by
  unfold fcost
  split
  · omega
  · have := (short_len 0 v.length (by omega)).2; omega
theorem fcost_le2 {v : List Nat} {m : Nat} (h : v.length ≤ m) (hm : m < 16384) : fcost v ≤ m + 3 := by
  unfold fcost
  split
  · omega
  · have := (short_len 1 v.length (by omega)).2; omega
theorem putAll_cost : ∀ l : List Fd, (putAll (live l)).length = (l.map fun f => fcost f.2).sum
  | [] => rfl
  | (t, []) :: r => by
    rw [live_nil, putAll_cost r]
    simp [fcost]
  | (t, x :: v) :: r => by
    rw [live_cons t r (by simp), putAll_cons, List.length_append, putAll_cost r, formF_len]
    simp only [List.map_cons, List.sum_cons]
    have : fcost (x :: v) = (x :: v).length + 1 + (short (x :: v).length).length := by unfold fcost; rw [if_neg (by simp)]
    rw [this]
    omega
theorem Nv_num {z : Int} (h : 0 ≤ z ∧ z ≤ 1125899906842624) : (Nv z.toNat).length ≤ 8 := Nv_max (k := 7) (by have : (128 : Nat) ^ 8 = 72057594037927936 := rfl; omega)
theorem Nv_u {n : Nat} (h : n < U64) : (Nv n).length ≤ 10 := Nv_le h
theorem shs_cost : ∀ l : List Int, okL l = true → (listAll (shs l)).length ≤ l.length * 9
  | [], _ => by simp [shs, listAll]
  | z :: l, h => by
    have hz := okL_mem h (n := z) (List.mem_cons_self ..)
    have ih := shs_cost l (List.all_eq_true.2 fun x hx => List.all_eq_true.1 h x (List.mem_cons_of_mem _ hx))
    have h8 : (short z.toNat).length ≤ 8 := (short_len 7 z.toNat (by have : (128 : Nat) ^ 8 = 72057594037927936 := rfl; omega)).2
    have h1 : (short (short z.toNat).length).length ≤ 1 := (short_len 0 _ (by omega)).2
    have e : listAll (shs (z :: l)) = short (short z.toNat).length ++ (short z.toNat ++ listAll (shs l)) := by simp [shs, listAll]
    rw [e]
    simp only [List.length_append, List.length_cons]
    omega
theorem ER.short {r : ER} (h : r.ok = true) (hw : r.wf) (ha : r.acc = 0) : r.form.length ≤ 181 := by
  obtain ⟨h1, h2, h3⟩ := ER.ok_split h
  have c1 := fcost_le (Nv_u hw.co) (by omega)
  have c2 := fcost_le (Nv_num (okL_mem h1 (n := r.item) (by simp))) (by omega)
  have c3 := fcost_le (Nv_u hw.pr) (by omega)
  have c4 := fcost_le2 (m := 144) (v := listAll (shs r.ws)) (by have := shs_cost r.ws h3; omega) (by omega)
  have c5 : fcost (Nv r.acc.toNat) = 0 := by rw [ha]; rfl
  unfold ER.form
  rw [putAll_cost]
  simp only [ER.fl, List.map_cons, List.map_nil, List.sum_cons, List.sum_nil]
  omega
theorem CR.short {r : CR} (h : r.ok = true) (hw : r.wf) (ha : r.num = 0) (hb : r.by_ = 0) (he : r.es.length = 0) : r.form.length ≤ 86 := by
  obtain ⟨h1, h2, h3⟩ := CR.ok_split h
  have a : ∀ z ∈ r.seven, fcost (Nv z.toNat) ≤ 10 := fun z hz => fcost_le (Nv_num (okL_mem h3 hz)) (by omega)
  have d1 := a r.kind (by simp [CR.seven])
  have d2 := a r.to_ (by simp [CR.seven])
  have d3 : fcost (Nv r.num.toNat) = 0 := by rw [ha]; rfl
  have d4 := a r.of_ (by simp [CR.seven])
  have d5 := fcost_le (Nv_u hw.pr) (by omega)
  have d6 := a r.dl (by simp [CR.seven])
  have d7 := a r.want (by simp [CR.seven])
  have d8 := fcost_le (Nv_u hw.rs) (by omega)
  have d9 := fcost_le (Nv_u hw.st) (by omega)
  have d10 : fcost (Nv r.by_.toNat) = 0 := by rw [hb]; rfl
  have d11 : fcost (listAll (r.es.map ER.form)) = 0 := by rw [List.length_eq_zero_iff.1 he]; rfl
  unfold CR.form
  rw [putAll_cost]
  simp only [CR.fl, List.map_cons, List.map_nil, List.sum_cons, List.sum_nil]
  omega
/-- A command's form has 1 to 512 bytes. -/
theorem KC.short {r : KC} (h : r.ok = true) (hw : r.wf) : 0 < r.form.length ∧ r.form.length ≤ 512 := by
  obtain ⟨h1, h2, h3, h4, h5, h6, h7, h8, h9, h10⟩ := KC.fine_split (KC.ok_fine h)
  have e1 := fcost_le (v := Nv r.id.toNat) (m := 5) (Nv_max (k := 4) (by have : (128 : Nat) ^ 5 = 34359738368 := rfl; omega)) (by omega)
  have e2 := fcost_le (v := Nv r.kind.toNat) (m := 1) (Nv_max (k := 0) (by omega)) (by omega)
  have e3 := fcost_le2 h3 (by omega)
  have e4 := fcost_le (Nv_num (okL_mem h4 (n := r.to_) (by simp))) (by omega)
  have e5 := fcost_le (Nv_u hw.co) (by omega)
  have e6 := fcost_le (Nv_num (okL_mem h4 (n := r.item) (by simp))) (by omega)
  have e7 := fcost_le (Nv_num (okL_mem h4 (n := r.num) (by simp))) (by omega)
  have e8 := fcost_le (Nv_num (okL_mem h4 (n := r.of_) (by simp))) (by omega)
  have e9 := fcost_le2 (ER.short h5 hw.e h6) (by omega)
  have e10 := fcost_le (CR.short h7 hw.k h8 h9 h10) (by omega)
  have hk : 1 ≤ fcost (Nv r.kind.toNat) := by
    have hn : Nv r.kind.toNat ≠ [] := fun e => by have := (Nv_nil _).1 e; omega
    have : (Nv r.kind.toNat).length ≠ 0 := fun e => hn (List.length_eq_zero_iff.1 e)
    unfold fcost
    rw [if_neg this]; omega
  unfold KC.form
  rw [putAll_cost]
  simp only [KC.fl, List.map_cons, List.map_nil, List.sum_cons, List.sum_nil]
  omega
end Go.Proofs.Ytlcjhbemgagchaa
end
