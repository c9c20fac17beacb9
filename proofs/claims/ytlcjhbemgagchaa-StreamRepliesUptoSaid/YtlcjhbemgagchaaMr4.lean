/-
  Texts merged into one, to keep the claim small: TlvPut, Bulk, TlvGetSpec, TlvPiece, Reg.
-/
import Derived.Test.YtlcjhbemgagchaaMr3
import Derived.Deep.RegionHeld3
import Derived.Deep.DeepCutAuto
import Derived.Deep.DrawnRows
import Derived.Test.YtlcjhbemgagchaaMr2
import Derived.Test.YtlcjhbemgagchaaRows
import Derived.Test.YtlcjhbemgagchaaMr1
import Derived.Deep.AppendLies
section
/-
  tlv.Put and the reference's Put.
-/
namespace Go.Proofs.Ytlcjhbemgagchaa
open Go.RowKit
set_option linter.unusedVariables false

def putScan (last : Int) : List (Int × List Nat) → Nat
  | [] => 0
  | (t, v) :: r => if t ≤ last ∨ 255 < t then 21 else if v.length = 0 then 20 else putScan t r
def putAll (fs : List (Int × List Nat)) : List Nat := fs.flatMap fun f => formF f.1.toNat f.2
def putErr (fs : List (Int × List Nat)) : Nat := if putScan 0 fs ≠ 0 then putScan 0 fs else if 1048576 < (putAll fs).length then 3 else 0
def putBytes (fs : List (Int × List Nat)) : List Nat := if putErr fs = 0 then putAll fs else []
theorem putAll_take {fs : List (Int × List Nat)} {k : Nat} (h : k < fs.length) : putAll (fs.take (k + 1)) = putAll (fs.take k) ++ formF fs[k].1.toNat fs[k].2 := by
  unfold putAll
  rw [List.take_succ_eq_append_getElem h, List.flatMap_append]; simp

/-- The slice '.slice A n c' leads to the fields fs (size cells each: the tag, the value, ..). -/
def FAt (w : World) (size : Nat) (A : Option Addr) (n : Nat) (fs : List (Int × List Nat)) : Prop :=
  n = fs.length ∧ (0 < n → ∃ b o, A = some ⟨b, o, none⟩ ∧ ∀ (i : Nat) (hi : i < fs.length), ∃ V m d, w.cell? ⟨b, o + i * size, none⟩ = some (.int .i64 fs[i].1) ∧ w.cell? ⟨b, o + i * size + 1, none⟩ = some (.slice V m d) ∧ Sl w 1 V m (fs[i].2.map bn))
theorem FAt.quiet {w w' : World} {size n : Nat} {A : Option Addr} {fs : List (Int × List Nat)} (h : FAt w size A n fs) (hf : Fr (fun _ => False) w w') : FAt w' size A n fs := by
  refine ⟨h.1, fun hn => ?_⟩
  obtain ⟨b, o, hA, hc⟩ := h.2 hn
  refine ⟨b, o, hA, fun i hi => ?_⟩
  obtain ⟨V, m, d, c0, c1, hS⟩ := hc i hi
  exact ⟨V, m, d, (hf.cell (World.block_lt_of_cell? w _ c0) id).trans c0, (hf.cell (World.block_lt_of_cell? w _ c1) id).trans c1, hS.below hf (fun _ _ => id)⟩
theorem Sl.lt {w : World} {n : Nat} {A : Option Addr} {xs : List Value} (hS : Sl w 1 A n xs) : ∀ b o, A = some ⟨b, o, none⟩ → 0 < n → b < w.heap.size := by
  intro b o hA hn
  obtain ⟨b2, o2, h2, hc2⟩ := hS.2 hn
  rw [hA] at h2; cases h2
  have hx : 0 < xs.length := by rw [hS.1]; omega
  exact World.block_lt_of_cell? w _ (hc2 0 _ (List.getElem?_eq_getElem hx))

/-- Behind Put: the bytes (none beside an error), in new memory; the error. -/
def PutPost (bs : List Nat) (er : Nat) (w : World) (e : Ending) (w' : World) : Prop :=
  ∃ A n c g, e = .returned (.tuple #[.slice A n c, .int .i64 (er : Int)]) ∧ Ow w' 5 1 A n c (bs.map bn) g ∧ (∀ b, g = some b → w.heap.size ≤ b) ∧ Fr (fun _ => False) w w'
theorem PutPost.err {fs : List (Int × List Nat)} {w w' : World} {er : Nat} (h : putErr fs = er) (h0 : er ≠ 0) (hf : Fr (fun _ => False) w w') : PutPost (putBytes fs) (putErr fs) w (.returned (.tuple #[.slice none 0 0, .int .i64 (er : Int)])) w' := by
  refine ⟨none, 0, 0, none, by rw [h], ?_, (fun b h => by cases h), hf⟩
  rw [putBytes, h, if_neg h0]; exact Ow.nil_ _ _ _

/-- How much of the bytes stands in b. -/
def Held (bs all : List Nat) : Prop := bs = all ∨ 1048576 < bs.length ∧ bs.length ≤ all.length

end Go.Proofs.Ytlcjhbemgagchaa
end

section
/-
  The bound of the second form, and lists of fields opened under it.
-/
namespace Go.Proofs.Ytlcjhbemgagchaa
open Go.ChangeShapes Go.WideShapes Go.ChangeAt Go.RowKit Go.Deep Go.Joins
set_option linter.unusedVariables false

theorem bulk_pos {H : Type} (d : DataW H) : 1 ≤ Rows.uptoBulk d := by
  cases d with
  | lit l => cases l <;> simp [Rows.uptoBulk]
  | _ => simp [Rows.uptoBulk]
theorem bulk_mem {H : Type} {d : DataW H} : ∀ {l : List (DataW H)}, d ∈ l → Rows.uptoBulk d ≤ Rows.uptoBulkAll l
  | x :: l, h => by
    simp only [Rows.uptoBulkAll]
    rcases List.mem_cons.1 h with rfl | h
    · omega
    · have := bulk_mem h; omega
theorem bulk_len {H : Type} : ∀ (l : List (DataW H)), l.length ≤ Rows.uptoBulkAll l
  | [] => by simp
  | x :: l => by
    have := bulk_pos x
    have := bulk_len l
    simp only [Rows.uptoBulkAll, List.length_cons]; omega
theorem bulk_sum {H : Type} {α : Type} (D : α → DataW H) (f : α → Nat) : ∀ (l : List α), (∀ i ∈ l, f i ≤ Rows.uptoBulk (D i)) → (l.map f).sum ≤ Rows.uptoBulkAll (l.map D)
  | [], _ => by simp [Rows.uptoBulkAll]
  | x :: l, h => by
    have h1 := h x (by simp)
    have h2 := bulk_sum D f l fun i hi => h i (by simp [hi])
    simp only [List.map_cons, List.sum_cons, Rows.uptoBulkAll]; omega
theorem bulk_slice {H : Type} (el sp : List (DataW H)) : Rows.uptoBulkAll el + 1 ≤ Rows.uptoBulk (.slice el sp) := by
  simp only [Rows.uptoBulk]; omega
theorem bulk_agg {H : Type} (l : List (DataW H)) : Rows.uptoBulk (.agg l) = Rows.uptoBulkAll l + 1 := by simp [Rows.uptoBulk]

section
variable {H : Type} {enc : TypeId × Value → H} {P : Program} {w : World} {base : Nat} {spare : Nat → Bool} {held : Bool}
/-- A list of structs of a tag and bytes. -/
theorem open_fields {t e ti tb eb : TypeId} {f0 f1 : Field} {fuel : Nat} {cs : List Value} {x : DataW H × List MemPlace} (ht : P.underlying t = some (.slice e)) (he : P.underlying e = some (.struct #[f0, f1]))
    (hone : oneCellFields P #[f0, f1] = true) (hC : P.cellsOf e = 2) (h0 : f0.type = ti) (h1 : f1.type = tb) (hti : P.underlying ti = some (.int .i64)) (htb : P.underlying tb = some (.slice eb)) (heb : P.underlying eb = some (.int .u8)) (hCb : P.cellsOf eb = 1)
    (h : DataW.trod enc P w base spare held fuel t cs = some x) :
    ∃ (A : Option Addr) (n c : Nat) (fs : List (Int × List Nat)), cs = [.slice A n c] ∧ n ≤ c ∧ c ≤ maxLen ∧ FAt w 2 A n fs ∧ (fs.map fun f => f.2.length + 1).sum ≤ Rows.uptoBulk x.1 := by
  rcases open_slice ht h with ⟨rfl, hx⟩ | ⟨a, len, cap, m, k, D, Pl, rfl, _, hl, hm, hmm, hxx, hi⟩
  · exact ⟨none, 0, 0, [], rfl, Nat.le_refl _, Nat.zero_le _, ⟨rfl, fun h => absurd h (by omega)⟩, by simp⟩
  · have hlm : len ≤ m := by rw [hmm]; split <;> omega
    have hrow : ∀ i, i < len → ∃ (T : Int) (V : Option Addr) (nv dv : Nat) (xs : List Nat), w.cell? (a.add (i * 2)) = some (.int .i64 T) ∧ w.cell? (a.add (i * 2 + 1)) = some (.slice V nv dv) ∧ Sl w 1 V nv (xs.map bn) ∧ xs.length + 1 ≤ Rows.uptoBulk (D i) := by
      intro i hil
      obtain ⟨cs', hc, ht'⟩ := hi i (by omega)
      rw [hC] at hc
      obtain ⟨ys, n', _, hD, _, hyl, hf⟩ := DataW.trod_struct he ht'
      obtain ⟨_, hcl, hat⟩ := World.cells?_some hc
      have hyl2 : ys.length = 2 := hyl
      match cs', hcl, ys, hyl2 with
      | [v0, v1], _, [y0, y1], _ =>
        obtain ⟨o0, k0⟩ := hone_of hone 0 f0 rfl
        obtain ⟨o1, k1⟩ := hone_of hone 1 f1 rfl
        have r0 := hf 0 f0 rfl
        have r1 := hf 1 f1 rfl
        rw [o0, k0, h0] at r0
        rw [o1, k1, h1] at r1
        obtain ⟨T, e0, _, _⟩ := DataW.trod_int hti r0
        obtain ⟨V, nv, dv, xs, e1, _, _, hxl, _, hS, hd⟩ := open_bytes htb heb hCb r1
        have a0 := hat 0 (by omega)
        have a1 := hat 1 (by omega)
        rw [add_add] at a0 a1
        simp at e0 e1 a0 a1
        subst e0 e1
        refine ⟨T, V, nv, dv, xs, a0, a1, hS, ?_⟩
        simp only [Prod.mk.injEq] at hD
        rw [hD.1, bulk_agg]
        simp only [List.map_cons, List.map_nil, Rows.uptoBulkAll]
        rcases hd with hd | ⟨el, sp, hd, hel⟩
        · rw [← hxl, hd]; omega
        · have h2 := bulk_slice el sp
          have h3 := bulk_len el
          have h4 : Rows.uptoBulk y1.1 = Rows.uptoBulk (DataW.slice el sp) := by rw [show y1.1 = _ from hd]
          rw [h4]; omega
    have hch : ∃ r : Nat → Int × List Nat, ∀ i, i < len → ∃ (V : Option Addr) (nv dv : Nat), w.cell? (a.add (i * 2)) = some (.int .i64 (r i).1) ∧ w.cell? (a.add (i * 2 + 1)) = some (.slice V nv dv) ∧ Sl w 1 V nv ((r i).2.map bn) ∧ (r i).2.length + 1 ≤ Rows.uptoBulk (D i) := by
      refine ⟨fun i => if hil : i < len then (Classical.choose (hrow i hil), Classical.choose (Classical.choose_spec (Classical.choose_spec (Classical.choose_spec (Classical.choose_spec (hrow i hil)))))) else (0, []), fun i hil => ?_⟩
      simp only [dif_pos hil]
      exact ⟨_, _, _, Classical.choose_spec (Classical.choose_spec (Classical.choose_spec (Classical.choose_spec (Classical.choose_spec (hrow i hil)))))⟩
    obtain ⟨r, hr⟩ := hch
    refine ⟨some a, len, cap, (List.range len).map r, rfl, hl, hm, ⟨by simp, fun hn => ?_⟩, ?_⟩
    · obtain ⟨_, _, _, c0, _⟩ := hr 0 hn
      have hs : a.spot = none := by simpa [Addr.add] using World.cell?_spot c0
      obtain ⟨b, o, sp⟩ := a
      simp only at hs
      subst hs
      refine ⟨b, o, rfl, fun i hi' => ?_⟩
      have hil : i < len := by simpa using hi'
      obtain ⟨V, nv, dv, c0, c1, hS, _⟩ := hr i hil
      rw [Addr.add_lit] at c0 c1
      exact ⟨V, nv, dv, by simpa using c0, by simpa [Nat.add_assoc] using c1, by simpa using hS⟩
    · rw [hxx]
      have h2 := bulk_slice ((List.range len).map D) ((List.range (m - len)).map fun j => D (len + j))
      have h3 := bulk_sum D (fun i => (r i).2.length + 1) (List.range len) fun i hi' => (hr i (by simpa using hi')).choose_spec.choose_spec.choose_spec.2.2.2
      rw [List.map_map]
      show ((List.range len).map fun i => (r i).2.length + 1).sum ≤ Rows.uptoBulk (DataW.slice ((List.range len).map D) ((List.range (m - len)).map fun j => D (len + j)))
      omega
end

theorem putAll_sum : ∀ (fs : List (Int × List Nat)), (fs.map fun f => f.2.length + 1).sum ≤ 1048576 → (putAll fs).length ≤ 11 * (fs.map fun f => f.2.length + 1).sum ∧ fs.length ≤ (fs.map fun f => f.2.length + 1).sum ∧ ∀ (i : Nat) (hi : i < fs.length), fs[i].2.length ≤ 1048576
  | [], _ => by simp [putAll]
  | (t, v) :: fs, h => by
    simp only [List.map_cons, List.sum_cons] at h ⊢
    obtain ⟨a, b, c⟩ := putAll_sum fs (by omega)
    have hv := short_le (n := v.length) (by unfold U64; omega)
    refine ⟨?_, by simp; omega, fun i hi => ?_⟩
    · have e : putAll ((t, v) :: fs) = formF t.toNat v ++ putAll fs := by simp [putAll]
      rw [e, List.length_append, formF_len]; omega
    · rcases i with _ | i
      · simp; omega
      · exact c i (by simpa using hi)
end Go.Proofs.Ytlcjhbemgagchaa
end

section
/-
  What Get, Items and what stands within them read, in plain lists of numbers.
-/
namespace Go.Proofs.Ytlcjhbemgagchaa
set_option linter.unusedVariables false

theorem readF_ok : ∀ (f k n : Nat) (l : List Nat) (N k' : Nat), readF f k n l = (N, k', 0) → k < k' ∧ k' ≤ k + l.length
  | 0, _, _, _, _, _, h => by simp [readF] at h
  | f + 1, k, n, [], N, k', h => by simp [readF] at h
  | f + 1, k, n, c :: l, N, k', h => by
    rw [readF] at h
    split at h
    · simp at h
    · split at h
      · split at h
        · simp at h
        · simp at h; simp; omega
      · have := readF_ok f (k + 1) _ l N k' h
        simp; omega
theorem readShort_ok {bs : List Nat} {a : Nat} {N : Nat} {t : Int} (h : readShort bs (a : Int) = (N, t, 0)) : (a : Int) < t ∧ t ≤ bs.length := by
  unfold readShort at h
  split at h
  · simp at h
  · rename_i hr
    simp only at h
    split at h
    · rename_i h0
      simp only [Int.toNat_natCast] at h0 h hr
      generalize hg : readF 10 0 0 (bs.drop a) = r at h0 h
      obtain ⟨x, y, z⟩ := r
      simp only at h0 h
      subst h0
      have h1 := readF_ok 10 0 0 (bs.drop a) _ _ hg
      simp only [List.length_drop] at h1
      simp only [Prod.mk.injEq] at h
      omega
    · rename_i h0
      simp at h h0; omega

/-- A length and so many bytes: where they begin and end, or where what is wrong. -/
def pieceS (bs : List Nat) (a : Nat) : (Nat × Nat) ⊕ (Nat × Int) :=
  let r := readShort bs (a : Int)
  if r.2.2 ≠ 0 then .inr (a, r.2.2) else if bs.length - r.2.1.toNat < r.1 then .inr (r.2.1.toNat, 22) else .inl (r.2.1.toNat, r.2.1.toNat + r.1)
theorem pieceS_ok {bs : List Nat} {a f t : Nat} (h : pieceS bs a = .inl (f, t)) : a < f ∧ f ≤ t ∧ t ≤ bs.length := by
  unfold pieceS at h
  simp only at h
  split at h
  · cases h
  · rename_i h0
    split at h
    · cases h
    · simp only [Sum.inl.injEq, Prod.mk.injEq] at h
      have h1 := readShort_ok (bs := bs) (a := a) (N := (readShort bs a).1) (t := (readShort bs a).2.1) (by
        have : (readShort bs (a : Int)).2.2 = 0 := by simpa using h0
        rw [← this])
      omega
theorem pieceS_bad {bs : List Nat} {a p : Nat} {e : Int} (h : pieceS bs a = .inr (p, e)) : e ≠ 0 ∧ (p ≤ a ∨ p ≤ bs.length) := by
  unfold pieceS at h
  simp only at h
  split at h
  · rename_i h0
    simp only [Sum.inr.injEq, Prod.mk.injEq] at h
    exact ⟨by rw [← h.2]; exact h0, by omega⟩
  · rename_i h0
    have h1 := readShort_ok (bs := bs) (a := a) (N := (readShort bs a).1) (t := (readShort bs a).2.1) (by
      have : (readShort bs (a : Int)).2.2 = 0 := by simpa using h0
      rw [← this])
    split at h
    · simp only [Sum.inr.injEq, Prod.mk.injEq] at h; omega
    · cases h

/-- A field that stands in bytes. -/
structure GF where
  tag : Nat
  at_ : Nat
  from_ : Nat
  to_ : Nat
def GF.val (bs : List Nat) (F : GF) : List Nat := (bs.drop F.from_).take (F.to_ - F.from_)
theorem GF.val_len {bs : List Nat} {F : GF} (h : F.to_ ≤ bs.length) : (F.val bs).length = F.to_ - F.from_ := by simp [GF.val]; omega
theorem GF.val_bytes {bs : List Nat} {F : GF} (h : ∀ x ∈ bs, x < 256) : ∀ x ∈ F.val bs, x < 256 := fun x hx => h x (List.mem_of_mem_drop (List.mem_of_mem_take hx))

/-- One field read. -/
def stepG (bs : List Nat) (a last : Nat) : GF ⊕ (Nat × Int) :=
  if bs.getD a 0 ≤ last then .inr (a, 21)
  else match pieceS bs (a + 1) with
    | .inr pe => .inr pe
    | .inl (f, t) => if t - f = 0 then .inr (a + 1, 20) else .inl ⟨bs.getD a 0, a, f, t⟩
/-- All fields from a place on: those that are right, then what is wrong first, and where. -/
def getS (bs : List Nat) (a last : Nat) : List GF × Nat × Int :=
  if h : a < bs.length then
    match stepG bs a last with
    | .inr (p, e) => ([], p, e)
    | .inl F => if h2 : a < F.to_ then
        let r := getS bs F.to_ F.tag
        (F :: r.1, r.2)
      else ([], 0, 0)
  else ([], 0, 0)
termination_by bs.length - a
decreasing_by omega
theorem getS_end {bs : List Nat} {a last : Nat} (h : ¬ a < bs.length) : getS bs a last = ([], 0, 0) := by rw [getS, dif_neg h]
theorem getS_bad {bs : List Nat} {a last p : Nat} {e : Int} (h : a < bs.length) (hs : stepG bs a last = .inr (p, e)) : getS bs a last = ([], p, e) := by rw [getS, dif_pos h, hs]
theorem getS_one {bs : List Nat} {a last : Nat} {F : GF} (h : a < bs.length) (hs : stepG bs a last = .inl F) (h2 : a < F.to_) : getS bs a last = (F :: (getS bs F.to_ F.tag).1, (getS bs F.to_ F.tag).2) := by
  rw [getS, dif_pos h, hs]; simp only [dif_pos h2]
theorem stepG_order {bs : List Nat} {a last : Nat} (h : bs.getD a 0 ≤ last) : stepG bs a last = .inr (a, 21) := by rw [stepG, if_pos h]
theorem stepG_piece {bs : List Nat} {a last p : Nat} {e : Int} (h : ¬ bs.getD a 0 ≤ last) (hp : pieceS bs (a + 1) = .inr (p, e)) : stepG bs a last = .inr (p, e) := by rw [stepG, if_neg h, hp]
theorem stepG_none {bs : List Nat} {a last f : Nat} (h : ¬ bs.getD a 0 ≤ last) (hp : pieceS bs (a + 1) = .inl (f, f)) : stepG bs a last = .inr (a + 1, 20) := by rw [stepG, if_neg h, hp]; simp
theorem stepG_one {bs : List Nat} {a last f t : Nat} (h : ¬ bs.getD a 0 ≤ last) (hp : pieceS bs (a + 1) = .inl (f, t)) (hft : f < t) : stepG bs a last = .inl ⟨bs.getD a 0, a, f, t⟩ := by
  rw [stepG, if_neg h, hp]; simp; omega
theorem stepG_bad {bs : List Nat} {a last p : Nat} {e : Int} (h : stepG bs a last = .inr (p, e)) : e ≠ 0 := by
  unfold stepG at h
  split at h
  · cases h; omega
  · split at h
    · rename_i pe hp
      cases h
      exact (pieceS_bad hp).1
    · split at h
      · cases h; omega
      · cases h
theorem getS_place (bs : List Nat) (a last : Nat) (h : (getS bs a last).2.2 = 0) : (getS bs a last).2.1 = 0 := by
  by_cases ha : a < bs.length
  · rcases hs : stepG bs a last with F | ⟨p, e⟩
    · by_cases h2 : a < F.to_
      · rw [getS_one ha hs h2] at h ⊢
        exact getS_place bs F.to_ F.tag h
      · rw [getS, dif_pos ha, hs]; simp only [dif_neg h2]
    · rw [getS_bad ha hs] at h
      exact absurd h (stepG_bad hs)
  · rw [getS_end ha]
termination_by bs.length - a
/-- What Get answers: the fields (none beside an error), the place, the error. -/
def getAll (bs : List Nat) : List GF × Nat × Int :=
  if 1048576 < bs.length then ([], 0, 3) else if (getS bs 0 0).2.2 = 0 then getS bs 0 0 else ([], (getS bs 0 0).2)
theorem getAll_place {bs : List Nat} (h : (getAll bs).2.2 = 0) : (getAll bs).2.1 = 0 := by
  unfold getAll at h ⊢
  split at h
  · simp at h
  · rename_i hb
    rw [if_neg hb]
    split at h
    · rename_i h0; rw [if_pos h0]; exact getS_place _ _ _ h0
    · rename_i h0; exact absurd h h0
end Go.Proofs.Ytlcjhbemgagchaa
end

section
/-
  piece (tlv), Copied (the reference).
-/
namespace Go.Proofs.Ytlcjhbemgagchaa
open Go.RowKit
set_option linter.unusedVariables false

theorem results_tmp4 {fn : Func} {t u v x : Tmp} (h : fn.results = #[.tmp t, .tmp u, .tmp v, .tmp x]) (tmps : Array Value) (P : Program) (w : World) :
    (results fn tmps).run P w = .ok (.tuple #[tmps.getD t undef, tmps.getD u undef, tmps.getD v undef, tmps.getD x undef]) w := by
  simp [results, h]

/-- A part of a slice. -/
theorem Sl.part {w : World} {n : Nat} {b o : Nat} {xs : List Value} (h : Sl w 1 (some ⟨b, o, none⟩) n xs) {f t : Nat} (h1 : f ≤ t) (h2 : t ≤ n) : Sl w 1 (some ⟨b, o + f, none⟩) (t - f) ((xs.drop f).take (t - f)) := by
  have hl := h.1
  refine ⟨by simp; omega, fun h0 => ⟨b, o + f, rfl, fun j u hu => ?_⟩⟩
  obtain ⟨b', o', e, hc⟩ := h.2 (by omega)
  cases e
  rw [List.getElem?_take] at hu
  split at hu
  · rw [List.getElem?_drop] at hu
    have := hc _ _ hu
    rwa [← Nat.add_assoc] at this
  · cases hu

/-- Behind piece: where the bytes lie, and in which block. -/
def PieceAt (bs : List Nat) (a : Nat) (b o : Nat) (e : Ending) : Prop :=
  (∃ (p : Nat) (er : Int), pieceS bs a = .inr (p, er) ∧ e = .returned (.tuple #[.slice none 0 0, .int .i64 0, .int .i64 (p : Int), .int .i64 er])) ∨
  (∃ f t o' : Nat, pieceS bs a = .inl (f, t) ∧ e = .returned (.tuple #[.slice (some ⟨b, o', none⟩) (t - f) (t - f), .int .i64 (t : Int), .int .i64 0, .int .i64 0]) ∧ (f < t → o' = o + f))

set_option maxHeartbeats 1000000 in
set_option maxRecDepth 4000 in
theorem piece_any (w : World) (xs : List Nat) (b o : Nat) (n c : Nat) (a : Nat) (hn : n ≤ 140737488355328) (hc : n ≤ c) (hc2 : c ≤ 9223372036854775807) (hl : n = xs.length) (ha : a ≤ n) (h256 : ∀ x ∈ xs, x < 256) (hA : Sl w 1 (some ⟨b, o, none⟩) n (xs.map bn)) :
    Calls Try.prog 143 #[.slice (some ⟨b, o, none⟩) n c, .int .i64 (a : Int)] w fun e w' => PieceAt xs a b o e ∧ w = w' := by
  obtain ⟨N, hN⟩ : ∃ N, (readShort xs a).1 = N := ⟨_, rfl⟩
  obtain ⟨T, hT⟩ : ∃ T, (readShort xs a).2.1 = T := ⟨_, rfl⟩
  obtain ⟨E, hE⟩ : ∃ E, (readShort xs a).2.2 = E := ⟨_, rfl⟩
  have hr : readShort xs a = (N, T, E) := by rw [← hN, ← hT, ← hE]
  have hv : Hid (ReadVal xs a = .tuple #[.int .u64 (N : Int), .int .i64 T, .int .i64 E]) := by show _ = _; rw [ReadVal, hr]
  have Hl := hide hl
  have hp0 : Hid (pieceS xs a = if E ≠ 0 then .inr (a, E) else if xs.length - T.toNat < N then .inr (T.toNat, 22) else .inl (T.toNat, T.toNat + N)) := by
    show _ = _; rw [pieceS, hr]
  by_cases h0 : E = 0
  · subst h0
    obtain ⟨h1, h2⟩ := readShort_ok hr
    rw [← Hl.out] at h2
    obtain ⟨t, rfl⟩ : ∃ t : Nat, T = (t : Int) := ⟨T.toNat, by omega⟩
    have hp : Hid (pieceS xs a = if n - t < N then .inr (t, 22) else .inl (t, t + N)) := by
      show _ = _; rw [hp0.out, Hl.out]; rfl
    clear hN hT hE hr hl hp0
    have w1 : IntKind.i64.wrap ((n : Int) - t) = (n : Int) - t := IntWalk.i64_in _ (by omega)
    have w2 : IntKind.u64.wrap ((n : Int) - t) = (n : Int) - t := IntWalk.u64_in _ (by omega)
    by_cases hb : n - t < N
    · have hb' : (n : Int) - t < N := by omega
      have hp' := hide (hp.out.trans (if_pos hb))
      clear hp hb
      go_enter Try.func143, Try.ntmps143
      go_wp2_with fail
      refine (tread_any _ xs _ n c _ hn Hl.out h256 hA).mono ?_
      rintro e w' ⟨rfl, rfl⟩
      rw [hv.out]
      go_wp2_with fail
      ((try simp only [Exit.inBlock, Exit.then]); refine bodyPost_ret (results_tmp4 rfl _ _ _) rfl ?_)
      exact ⟨.inl ⟨t, 22, hp'.out, rfl⟩, rfl⟩
    · have hb' : ¬ (n : Int) - t < N := by omega
      have hp' := hide (hp.out.trans (if_neg hb))
      clear hp
      have w3 : IntKind.i64.wrap (N : Int) = (N : Int) := IntWalk.i64_in _ (by omega)
      have w4 : IntKind.i64.wrap ((t : Int) + N) = (t : Int) + N := IntWalk.i64_in _ (by omega)
      have k0 : (0 : Int) ≤ t := by omega
      have k1 : (t : Int) ≤ (t : Int) + N := by omega
      have k2 : (t : Int) + N ≤ c := by omega
      go_enter Try.func143, Try.ntmps143
      go_wp2_with fail
      refine (tread_any _ xs _ n c _ hn Hl.out h256 hA).mono ?_
      rintro e w' ⟨rfl, rfl⟩
      rw [hv.out]
      go_wp2_with fail
      all_goals
        ((try simp only [Exit.inBlock, Exit.then]); refine bodyPost_ret (results_tmp4 rfl _ _ _) rfl ?_)
        first
          | (have e1 : t + N - t = 0 := by omega
             exact ⟨.inr ⟨t, t + N, o, hp'.out, by rw [e1]; rfl, fun h => by omega⟩, rfl⟩)
          | (have e1 : t + N - t = N := by omega
             exact ⟨.inr ⟨t, t + N, o + t, hp'.out, by rw [e1]; rfl, fun _ => rfl⟩, rfl⟩)
  · have hp := hide (hp0.out.trans (if_pos h0))
    clear hp0 hr hN hT hE hl
    go_enter Try.func143, Try.ntmps143
    go_wp2_with fail
    refine (tread_any _ xs _ n c _ hn Hl.out h256 hA).mono ?_
    rintro e w' ⟨rfl, rfl⟩
    rw [hv.out]
    go_wp2_with fail
    ((try simp only [Exit.inBlock, Exit.then]); refine bodyPost_ret (results_tmp4 rfl _ _ _) rfl ?_)
    exact ⟨.inl ⟨a, E, hp.out, rfl⟩, rfl⟩

theorem piece_at (w : World) (xs : List Nat) (b o : Nat) (n c : Nat) (a : Nat) (z : Int) (hz : z = (a : Int)) (hn : n ≤ 140737488355328) (hc : n ≤ c) (hc2 : c ≤ 9223372036854775807) (hl : n = xs.length) (ha : a ≤ n) (h256 : ∀ x ∈ xs, x < 256) (hA : Sl w 1 (some ⟨b, o, none⟩) n (xs.map bn)) :
    Calls Try.prog 143 #[.slice (some ⟨b, o, none⟩) n c, .int .i64 z] w fun e w' => PieceAt xs a b o e ∧ w = w' := by
  subst hz; exact piece_any w xs b o n c a hn hc hc2 hl ha h256 hA

set_option maxHeartbeats 1000000 in
set_option maxRecDepth 4000 in
theorem copied_any (w : World) (xs : List Nat) (A : Option Addr) (n c : Nat) (hn : n ≤ 140737488355328) (hA : Sl w 1 A n (xs.map bn)) :
    Calls Try.prog 134 #[.slice A n c] w (BP n xs w) := by
  obtain ⟨i0, hi, hz0, hz1, hz2⟩ := info_parts info5
  go_enter Try.func134, Try.ntmps134
  go_wp2_with (at_builtin; refine wpList_append_ow _ rfl _ _ 22 rfl 5 i0 (.int .u8 0) 1 1 Try.underlying22 hi hz0 hz1 hz2 rfl (by decide) _ _ _ _ _ rfl (Ow.nil_ _ _ _) _ _ _ _ rfl hA (bn_one _) (by unfold maxLen; omega) (by omega) ?_)
  intro A2 c2 w2 g2 hO2 hf2 hg2
  go_wp2_with fail
  go_ret
  refine ⟨A2, c2, g2, by simp, by simpa using hO2, ?_, hf2.mono fun k _ e => by cases e⟩
  intro b hb
  rcases hg2 with rfl | ⟨b', rfl, h⟩
  · cases hb
  · cases hb; exact h
end Go.Proofs.Ytlcjhbemgagchaa
end

section
/-
  append by Ow at a step of a region that draws its order.
-/
namespace Go.Proofs.Ytlcjhbemgagchaa
open Go.RowKit
set_option linter.unusedVariables false
section
variable {P : Program} (w : World)
theorem wp_append_ow {o : Oper} {a : Act} {K : Act → World → Prop} {Q : Exit → Act → World → Prop} (s x : Operand) (t : TypeId)
    (ho : o.op = .call { callee := .builtin .append, args := #[s, x], argTypes := #[t, t] })
    (e : TypeId) (i : TypeInfo) (z : Value) (size bytes : Nat) (ht : P.underlying t = some (.slice e)) (hi : P.info? e = some i) (hz : i.zero = some z)
    (hsize : i.size = size) (hby : i.bytes = bytes) (hzs : z.cells.size = size) (hsz : 0 < size)
    (A : Option Addr) (n c : Nat) (xs : List Value) (g : Option Nat) (hs : a.eval s = .slice A n c) (hown : Ow w e size A n c xs g)
    (A' : Option Addr) (m c' : Nat) (news : List Value) (hx : a.eval x = .slice A' m c') (hsrc : Sl w size A' m news) (h1 : ∀ u ∈ news, u.oneCell' = true)
    (h63 : n + m ≤ maxLen) (hbytes : (n + m) * bytes ≤ 140737488355328)
    (h : ∀ A2 c2 w2 g2, Ow w2 e size A2 (n + m) c2 (xs ++ news) g2 → Fr (fun k => some k = g) w w2 → (g2 = g ∨ ∃ b, g2 = some b ∧ w.heap.size ≤ b) → K (a.put o.dst (.slice A2 (n + m) c2)) w2) : o.wp P a w K Q := by
  obtain ⟨A2, c2, w2, g2, hrun, h2, h3, h4⟩ := run_append_ow (P := P) w t o.type e i z size bytes ht hi hz hsize hby hzs hsz A n c xs g hown A' m c' news hsrc h1 h63 hbytes
  unfold Oper.wp execOp
  simp only [ho, resolve, invoke, builtin, Sem.run_bind, Sem.run_pure, Result.andThen_ok, List.map_toArray, List.map_cons, List.map_nil, hs, hx, hrun]
  exact h A2 c2 w2 g2 h2 h3 h4
theorem step_append_ow {ops : Array Oper} {o : Oper} {a : Act} {K : Act → World → Prop} {Q : Exit → Act → World → Prop} {E : Prop} (hgd : o.guard = none) (s x : Operand) (t : TypeId)
    (ho : o.op = .call { callee := .builtin .append, args := #[s, x], argTypes := #[t, t] })
    (e : TypeId) (i : TypeInfo) (z : Value) (size bytes : Nat) (ht : P.underlying t = some (.slice e)) (hi : P.info? e = some i) (hz : i.zero = some z)
    (hsize : i.size = size) (hby : i.bytes = bytes) (hzs : z.cells.size = size) (hsz : 0 < size)
    (A : Option Addr) (n c : Nat) (xs : List Value) (g : Option Nat) (hs : a.eval s = .slice A n c) (hown : Ow w e size A n c xs g)
    (A' : Option Addr) (m c' : Nat) (news : List Value) (hx : a.eval x = .slice A' m c') (hsrc : Sl w size A' m news) (h1 : ∀ u ∈ news, u.oneCell' = true)
    (h63 : n + m ≤ maxLen) (hbytes : (n + m) * bytes ≤ 140737488355328)
    (h : ∀ A2 c2 w2 g2, Ow w2 e size A2 (n + m) c2 (xs ++ news) g2 → Fr (fun k => some k = g) w w2 → (g2 = g ∨ ∃ b, g2 = some b ∧ w.heap.size ≤ b) → K (a.put o.dst (.slice A2 (n + m) c2)) w2) :
    if Region.wanted o (yielded ops a.tmps) = true then Oper.wp P o a w K Q else E := by
  have hw : Region.wanted o (yielded ops a.tmps) = true := by simp [Region.wanted, hgd]
  rw [if_pos hw]
  exact wp_append_ow w s x t ho e i z size bytes ht hi hz hsize hby hzs hsz A n c xs g hs hown A' m c' news hx hsrc h1 h63 hbytes h
end
end Go.Proofs.Ytlcjhbemgagchaa
end
