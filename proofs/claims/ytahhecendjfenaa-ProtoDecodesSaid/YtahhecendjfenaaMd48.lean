/-
  Texts merged into one, to keep the claim small: PdM, Bytes.
-/
import Derived.Test.YtahhecendjfenaaMd37
import Derived.Test.YtahhecendjfenaaMd39
import Derived.Test.YtahhecendjfenaaMd40
import Derived.Test.YtahhecendjfenaaMd41
import Derived.Test.YtahhecendjfenaaMd42
import Derived.Test.YtahhecendjfenaaMd43
import Derived.Test.YtahhecendjfenaaMd44
import Derived.Test.YtahhecendjfenaaMd45
import Derived.Test.YtahhecendjfenaaMd46
import Derived.Test.YtahhecendjfenaaMd47
import Derived.Test.YtahhecendjfenaaMd0
import Derived.Test.YtahhecendjfenaaMd1
section
/-
  ProtoDecodes, joined.
-/
namespace Go.Proofs.Ytahhecendjfenaa
open Go.RowKit
set_option linter.unusedVariables false
theorem May_any (w : World) (r : KC) (h : r.at_ w) (hwf : r.wf) :
    Calls Try.prog 51 #[.agg #[.int .i64 r.id, .int .i64 r.kind, .string (strOf r.name), .int .i64 r.to_, .int .u64 (r.co : Int), .int .i64 r.item, .int .i64 r.num, .int .i64 r.of_, .int .i64 r.e.acc, .int .i64 r.e.item, .int .u64 (r.e.co : Int), .int .u64 (r.e.pr : Int), .slice r.e.A r.e.n r.e.c, .int .i64 r.k.num, .int .i64 r.k.kind, .int .i64 r.k.by_, .int .i64 r.k.dl, .int .i64 r.k.to_, .int .i64 r.k.want, .int .u64 (r.k.pr : Int), .int .u64 (r.k.rs : Int), .int .u64 (r.k.st : Int), .int .i64 r.k.of_, .slice r.k.A r.k.n r.k.c]] w fun e w' => e = .returned (.bool r.ok) ∧ Fr (fun _ => False) w w' := by
  cases hf : r.fine with
  | false =>
    have hok : r.ok = false := by unfold KC.ok; rw [hf]; rfl
    rw [hok]
    exact May_unfine w r h hf
  | true =>
    have hk := (KC.fine_split hf).1
    have hd : r.kind = 1 ∨ r.kind = 2 ∨ r.kind = 3 ∨ r.kind = 4 ∨ r.kind = 5 ∨ r.kind = 6 ∨ r.kind = 7 ∨ r.kind = 8 ∨ r.kind = 9 ∨ r.kind = 10 ∨ r.kind = 11 ∨ r.kind = 12 ∨ r.kind = 13 ∨ r.kind = 14 := by omega
    rcases hd with e | e | e | e | e | e | e | e | e | e | e | e | e | e
    · exact May_fine1 w r h hwf hf e
    · exact May_fine2 w r h hwf hf e
    · exact May_fine3 w r h hwf hf e
    · exact May_fine4 w r h hwf hf e
    · exact May_fine5 w r h hwf hf e
    · exact May_fine6 w r h hwf hf e
    · exact May_fine7 w r h hwf hf e
    · exact May_fine8 w r h hwf hf e
    · exact May_fine9 w r h hwf hf e
    · exact May_fine10 w r h hwf hf e
    · exact May_fine11 w r h hwf hf e
    · exact May_fine12 w r h hwf hf e
    · exact May_fine13 w r h hwf hf e
    · exact May_fine14 w r h hwf hf e
theorem decodes_any (w : World) (xs : List Nat) (A : Option Addr) (n c : Nat) (hl : n = xs.length) (hn : n ≤ 140737488351232) (h256 : ∀ x ∈ xs, x < 256) (hS : Sl w 1 A n (xs.map bn))
    (zs : List Nat) (B : Option Addr) (m d : Nat) (hlz : m = zs.length) (hz256 : ∀ x ∈ zs, x < 256) (hSz : Sl w 1 B m (zs.map bn)) :
    Calls Try.prog 5 #[.slice A n c, .slice B m d] w fun e w' => e = .returned (.bool true) ∧ Below w.heap.size w w' :=
  decodes_walk (fun w1 q hq => command_any w1 q hq) (fun w1 q hq hw => May_any w1 q hq hw) w xs A n c hl hn h256 hS zs B m d hlz hz256 hSz
end Go.Proofs.Ytahhecendjfenaa
end

section
/-
  An argument that is a slice of bytes, opened.
-/
namespace Go.Proofs.Ytahhecendjfenaa
open Go.ChangeShapes Go.WideShapes Go.ChangeAt Go.RowKit Go.Deep Go.Joins
set_option linter.unusedVariables false

section
variable {H : Type} {enc : TypeId × Value → H} {P : Program} {w : World} {base : Nat} {spare : Nat → Bool} {held : Bool}
theorem open_bytes {t e : TypeId} {fuel : Nat} {cs : List Value} {x : DataW H × List MemPlace} (ht : P.underlying t = some (.slice e)) (he : P.underlying e = some (.int .u8)) (hC : P.cellsOf e = 1)
    (h : DataW.trod enc P w base spare held fuel t cs = some x) :
    ∃ (A : Option Addr) (n c : Nat) (xs : List Nat), cs = [.slice A n c] ∧ n ≤ c ∧ c ≤ maxLen ∧ n = xs.length ∧ (∀ y ∈ xs, y < 256) ∧ Sl w 1 A n (xs.map bn) ∧ (n = 0 ∨ ∃ el sp, x.1 = .slice el sp ∧ el.length = n) := by
  obtain ⟨A, n, c, f, hcs, hn, hc, hlen, hcell, hfld⟩ := open_ones ht hC h
  have hf : ∀ i, i < n → ∃ z : Nat, f i 0 = bn z ∧ z < 256 := fun i hi => by
    obtain ⟨y, m, hy⟩ := hfld i hi
    obtain ⟨z, e, _, wf⟩ := DataW.trod_int he hy
    have b := bdu8 wf
    refine ⟨z.toNat, ?_, by omega⟩
    have : f i 0 = .int .u8 z := by simpa using e
    rw [this]; unfold bn; congr 1; omega
  refine ⟨A, n, c, (List.range n).map fun i => (intOf (f i 0)).toNat, hcs, hn, hc, by simp, ?_, ⟨by simp, ?_⟩, hlen⟩
  · intro y hy
    simp only [List.mem_map, List.mem_range] at hy
    obtain ⟨i, hi, rfl⟩ := hy
    obtain ⟨z, e, hz⟩ := hf i hi
    rw [e]; simp [bn, intOf, hz]
  · intro hn0
    obtain ⟨b, o, hA, hb, hcc⟩ := hcell hn0
    refine ⟨b, o, hA, fun j u hu => ?_⟩
    have hj : j < n := by simpa using (List.getElem?_eq_some_iff.1 hu).1
    obtain ⟨z, e, hz⟩ := hf j hj
    have := hcc j 0 hj (by omega)
    rw [Nat.mul_one, Nat.add_zero, e] at this
    rw [this]
    simp [hj, e] at hu
    rw [← hu]; simp [bn, intOf]
end
end Go.Proofs.Ytahhecendjfenaa
end
