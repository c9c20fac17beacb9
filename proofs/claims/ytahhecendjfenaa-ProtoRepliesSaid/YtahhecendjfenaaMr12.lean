/-
  Texts merged into one, to keep the claim small: TlvNum, TlvPuts1, TlvQuiet, TlvPuts2, TlvGet.
-/
import Derived.Test.YtahhecendjfenaaMr6
import Derived.Test.YtahhecendjfenaaMr11
import Derived.Test.YtahhecendjfenaaMr4
import Derived.Test.YtahhecendjfenaaMr10
section
/-
  TlvNumbers: the walk.
-/
namespace Go.Proofs.Ytahhecendjfenaa
open Go.RowKit
set_option linter.unusedVariables false

theorem Lent.sl {w : World} {A : Option Addr} {n c : Nat} {xs : List Nat} {g : Nat} (h : Lent w A n c xs g) (hl : n = xs.length) : Sl w 1 A n (xs.map bn) := by
  have := (Ow.take h (k := n) (by omega)).sl
  rwa [Nat.mul_one, List.map_append, List.take_left' (by simp [hl])] at this

end Go.Proofs.Ytahhecendjfenaa
end

section
/-
  TlvPuts: the first loop's words.
-/
namespace Go.Proofs.Ytahhecendjfenaa
open Go.RowKit
set_option linter.unusedVariables false

/-- Cells of equal rows, one behind the other. -/
theorem rows_get {α : Type} (f : α → List Value) (s : Nat) (hs : ∀ x, (f x).length = s) : ∀ (l : List α) (i j : Nat) (hi : i < l.length), j < s → (l.flatMap f)[i * s + j]? = (f l[i])[j]?
  | x :: l, 0, j, hi, hj => by
    rw [List.flatMap_cons, List.getElem?_append_left (by rw [hs]; omega)]; simp
  | x :: l, i + 1, j, hi, hj => by
    rw [List.flatMap_cons, List.getElem?_append_right (by rw [hs, Nat.add_mul]; omega), hs, show (i + 1) * s + j - s = i * s + j by rw [Nat.add_mul]; omega]
    rw [rows_get f s hs l i j (by simpa using hi) hj]; simp
theorem rows_len {α : Type} (f : α → List Value) (s : Nat) (hs : ∀ x, (f x).length = s) : ∀ (l : List α), (l.flatMap f).length = l.length * s
  | [] => by simp
  | x :: l => by rw [List.flatMap_cons, List.length_append, hs, rows_len f s hs l, List.length_cons, Nat.add_mul]; omega
theorem Ow.ne {w : World} {e e' : TypeId} {s s' n n' c c' : Nat} {A A' : Option Addr} {xs xs' : List Value} {g g' : Nat} (h : Ow w e s A n c xs (some g)) (h' : Ow w e' s' A' n' c' xs' (some g')) (hne : e ≠ e') : g ≠ g' := by
  rintro rfl
  rcases h.2 with ⟨_, _, _, h0⟩ | ⟨b, o, cur, _, h1, h2, _⟩
  · cases h0
  · rcases h'.2 with ⟨_, _, _, h0⟩ | ⟨b', o', cur', _, h1', h2', _⟩
    · cases h0
    · cases h1; cases h1'
      rw [h2] at h2'; injection h2' with h3; injection h3 with _ h4
      exact hne h4

theorem Sl.fr' {w w' : World} {S : Nat → Prop} (hf : Fr S w w') {n : Nat} {A : Option Addr} {xs : List Value} (hS : Sl w 1 A n xs) (hap : ∀ b o, A = some ⟨b, o, none⟩ → 0 < n → ¬ S b) : Sl w' 1 A n xs :=
  ⟨hS.1, fun hn => (hS.fr (B := 0) hf fun b ⟨o, e⟩ _ => hap b o e hn).2 hn⟩

/-- One field of the law's list: its tag, its bytes, the slice that came in, the lent one. -/
structure PR where
  T : Int
  xs : List Nat
  V : Option Addr
  m : Nat
  d : Nat
  A : Option Addr
  c : Nat
  g : Nat
def PR.inCells (r : PR) : List Value := [.int .i64 r.T, .slice r.A r.m r.c]
def PR.wantCells (r : PR) : List Value := [.int .i64 r.T, .slice r.V r.m r.d, .int .i64 0, .int .i64 0, .bool false]
theorem PR.inCells_len (r : PR) : r.inCells.length = 2 := rfl
theorem PR.wantCells_len (r : PR) : r.wantCells.length = 5 := rfl
/-- The lists so far. -/
structure PRs (w0 w : World) (rs : List PR) (fs : List (Int × List Nat)) : Prop where
  eq : rs.map (fun r => (r.T, r.xs)) = fs
  val : ∀ r ∈ rs, r.m = r.xs.length ∧ Sl w 1 r.V r.m (r.xs.map bn)
  lent : ∀ r ∈ rs, Lent w r.A r.m r.c r.xs r.g ∧ w0.heap.size ≤ r.g
  ord : rs.Pairwise fun a b => a.g < b.g
theorem PRs.len {w0 w : World} {rs : List PR} {fs : List (Int × List Nat)} (h : PRs w0 w rs fs) : rs.length = fs.length := by rw [← h.eq, List.length_map]
theorem PRs.step {w0 w w' : World} {rs : List PR} {fs : List (Int × List Nat)} {S : Nat → Prop} (h : PRs w0 w rs fs) (hf : Fr S w w') (hS : ∀ k, k < w.heap.size → S k → ∀ r ∈ rs, k ≠ r.g) (hV : ∀ r ∈ rs, Sl w 1 r.V r.m (r.xs.map bn) → Sl w' 1 r.V r.m (r.xs.map bn)) : PRs w0 w' rs fs :=
  ⟨h.eq, fun r hr => ⟨(h.val r hr).1, hV r hr (h.val r hr).2⟩, fun r hr => ⟨Ow.fr (h.lent r hr).1 hf fun b e hs => by
    cases e
    exact hS _ ((h.lent r hr).1.lt _ rfl) hs r hr rfl, (h.lent r hr).2⟩, h.ord⟩
theorem PRs.quiet {w0 w w' : World} {rs : List PR} {fs : List (Int × List Nat)} (h : PRs w0 w rs fs) (hf : Fr (fun _ => False) w w') : PRs w0 w' rs fs :=
  h.step hf (fun _ _ e => e.elim) fun r hr hv => hv.below hf (fun _ _ => id)
theorem PRs.fat {w0 w : World} {rs : List PR} {fs : List (Int × List Nat)} (h : PRs w0 w rs fs) {A : Option Addr} {n c : Nat} {e : TypeId} {g : Option Nat} {more : List Value} {N : Nat} (hn : n = rs.length) (hO : Ow w e 2 A N c (rs.flatMap PR.inCells ++ more) g) : FAt w 2 A n fs := by
  have hl := h.len
  refine ⟨by omega, fun h0 => ?_⟩
  have hx : ∀ i (hi : i < rs.length) j, j < 2 → (rs.flatMap PR.inCells ++ more)[i * 2 + j]? = (PR.inCells rs[i])[j]? := fun i hi j hj => by
    rw [List.getElem?_append_left (by rw [rows_len PR.inCells 2 PR.inCells_len]; omega), rows_get PR.inCells 2 PR.inCells_len rs i j hi hj]
  obtain ⟨b, o, hA, _, _⟩ := hO.look (hx 0 (by omega) 0 (by omega))
  refine ⟨b, o, hA, fun i hi => ?_⟩
  have hi' : i < rs.length := by omega
  have hr : rs[i] ∈ rs := List.getElem_mem hi'
  obtain ⟨b0, o0, hA0, _, k0, _⟩ := hO.look (hx i hi' 0 (by omega))
  obtain ⟨b1, o1, hA1, _, k1, _⟩ := hO.look (hx i hi' 1 (by omega))
  rw [hA] at hA0 hA1; cases hA0; cases hA1
  have he : fs[i] = (rs[i].T, rs[i].xs) := by
    have : (rs.map fun r => (r.T, r.xs))[i]'(by simpa using hi') = (rs[i].T, rs[i].xs) := by simp
    rw [← this]; congr 1; exact h.eq.symm
  refine ⟨rs[i].A, rs[i].m, rs[i].c, ?_, ?_, ?_⟩
  · rw [he]; simpa using k0
  · rw [← Nat.add_assoc] at k1; exact k1
  · rw [he]; exact (h.lent _ hr).1.sl (h.val _ hr).1
theorem PRs.fatw {w0 w : World} {rs : List PR} {fs : List (Int × List Nat)} (h : PRs w0 w rs fs) {A : Option Addr} {n c : Nat} {e : TypeId} {g : Option Nat} (hO : Ow w e 5 A n c (rs.flatMap PR.wantCells) g) : FAt w 5 A n fs := by
  have hl := h.len
  have hn : n = rs.length := by
    have := hO.1; rw [rows_len PR.wantCells 5 PR.wantCells_len] at this; omega
  refine ⟨by omega, fun h0 => ?_⟩
  have hx : ∀ i (hi : i < rs.length) j, j < 5 → (rs.flatMap PR.wantCells)[i * 5 + j]? = (PR.wantCells rs[i])[j]? := fun i hi j hj => rows_get PR.wantCells 5 PR.wantCells_len rs i j hi hj
  obtain ⟨b, o, hA, _, _⟩ := hO.look (hx 0 (by omega) 0 (by omega))
  refine ⟨b, o, hA, fun i hi => ?_⟩
  have hi' : i < rs.length := by omega
  have hr : rs[i] ∈ rs := List.getElem_mem hi'
  obtain ⟨b0, o0, hA0, _, k0, _⟩ := hO.look (hx i hi' 0 (by omega))
  obtain ⟨b1, o1, hA1, _, k1, _⟩ := hO.look (hx i hi' 1 (by omega))
  rw [hA] at hA0 hA1; cases hA0; cases hA1
  have he : fs[i] = (rs[i].T, rs[i].xs) := by
    have : (rs.map fun r => (r.T, r.xs))[i]'(by simpa using hi') = (rs[i].T, rs[i].xs) := by simp
    rw [← this]; congr 1; exact h.eq.symm
  refine ⟨rs[i].V, rs[i].m, rs[i].d, ?_, ?_, ?_⟩
  · rw [he]; simpa using k0
  · rw [← Nat.add_assoc] at k1; exact k1
  · rw [he]; exact (h.val _ hr).2
end Go.Proofs.Ytahhecendjfenaa
end

section
/-
  same and kept again, the world told: at most draws.
-/
namespace Go.Proofs.Ytahhecendjfenaa
open Go.RowKit
set_option linter.unusedVariables false
theorem fr_of_drewN {w w' : World} (h : ∃ m, w' = w.drewN m) : Fr (fun _ => False) w w' := by obtain ⟨m, rfl⟩ := h; exact (Fr.refl _ _).drewN _

theorem quiet_ex {P : Program} {f : FuncId} {args : Array Value} {w : World} {n : Nat} {v : Value}
    (h : Calls P f args (w.drewN n) fun e w' => e = .returned v ∧ ∃ m, w' = (w.drewN n).drewN m) : Calls P f args (w.drewN n) fun e w'' => e = .returned v ∧ ∃ m, w'' = w.drewN m := Calls.quiet_of h

end Go.Proofs.Ytahhecendjfenaa
end

section
/-
  TlvPuts: the walk.
-/
namespace Go.Proofs.Ytahhecendjfenaa
open Go.RowKit
set_option linter.unusedVariables false
attribute [local go_sem ↓] Go.wp_at_zero Go.wp_at_succ

theorem info42 : (Try.prog.info? 122).map (fun i => (i.zero, i.size, i.bytes)) = some (some (.agg #[.int .i64 0, .slice none 0 0, .int .i64 0, .int .i64 0, .bool false]), 5, 56) := by kernel_rfl

theorem Sl.row (w : World) (cs : Array Value) (t : TypeId) (s n : Nat) (h : cs.size = n * s) : Sl (w.alloc (.cells cs t)) s (some ⟨w.heap.size, 0, none⟩) n cs.toList :=
  ⟨by simpa using h, fun _ => ⟨w.heap.size, 0, rfl, fun j u hu => by
    have h := (Bl.new w t cs).cell j
    simp only [Nat.zero_add]
    rw [h]; simpa using hu⟩⟩

theorem Lent.ow {w : World} {A : Option Addr} {n c : Nat} {xs : List Nat} {g : Nat} (h : Lent w A n c xs g) (hl : n = xs.length) : Ow w 5 1 A n c (xs.map bn) (some g) := by
  have := Ow.take h (k := n) (by omega)
  rwa [Nat.mul_one, List.map_append, List.take_left' (by simp [hl])] at this

end Go.Proofs.Ytahhecendjfenaa
end

section
/-
  tlv.Get.
-/
namespace Go.Proofs.Ytahhecendjfenaa
open Go.RowKit
set_option linter.unusedVariables false
attribute [local go_sem ↓] Go.wp_at_zero Go.wp_at_succ

/-- A field that was got: where it stands, its bytes in memory of their own. -/
structure FO where
  F : GF
  A : Option Addr
  n : Nat
  c : Nat
  g : Option Nat
def FO.tCells (r : FO) : List Value := [.int .i64 r.F.tag, .slice r.A r.n r.c]
def FO.rCells (r : FO) : List Value := [.int .i64 r.F.tag, .slice r.A r.n r.c, .int .i64 r.F.at_, .int .i64 r.F.from_, .bool false]
theorem FO.tCells_len (r : FO) : r.tCells.length = 2 := rfl
theorem FO.rCells_len (r : FO) : r.rCells.length = 5 := rfl
/-- The fields' bytes: each in memory of its own, behind block B. -/
structure FOs (w : World) (bs : List Nat) (B : Nat) (rs : List FO) : Prop where
  own : ∀ r ∈ rs, Ow w 5 1 r.A r.n r.c ((r.F.val bs).map bn) r.g
  new : ∀ r ∈ rs, ∀ b, r.g = some b → B ≤ b
  ord : rs.Pairwise fun a b => ∀ x y, a.g = some x → b.g = some y → x < y
theorem FOs.fr {w w' : World} {bs : List Nat} {B : Nat} {rs : List FO} {S : Nat → Prop} (h : FOs w bs B rs) (hf : Fr S w w') (hS : ∀ k, B ≤ k → k < w.heap.size → ¬ S k) : FOs w' bs B rs :=
  ⟨fun r hr => (h.own r hr).fr hf fun b e => hS b (h.new r hr b e) ((h.own r hr).lt b e), h.new, h.ord⟩
theorem FOs.more {w : World} {bs : List Nat} {B B' : Nat} {rs : List FO} (h : FOs w bs B rs) (hB : B' ≤ B) : FOs w bs B' rs := ⟨h.own, fun r hr b e => Nat.le_trans hB (h.new r hr b e), h.ord⟩
theorem FOs.quiet {w w' : World} {bs : List Nat} {B : Nat} {rs : List FO} (h : FOs w bs B rs) (hf : Fr (fun _ => False) w w') : FOs w' bs B rs := h.fr hf fun _ _ _ => id
theorem FOs.nil_ (w : World) (bs : List Nat) (B : Nat) : FOs w bs B [] := ⟨(fun r h => by cases h), (fun r h => by cases h), List.Pairwise.nil⟩
/-- One more, in a world where only block g (of another type) has turned. -/
theorem FOs.add {w w' : World} {bs : List Nat} {B : Nat} {rs : List FO} {S : Nat → Prop} (h : FOs w bs B rs) (hf : Fr S w w') (hS : ∀ r ∈ rs, ∀ k, r.g = some k → ¬ S k) {r : FO} (ho : Ow w' 5 1 r.A r.n r.c ((r.F.val bs).map bn) r.g) (hn : ∀ b, r.g = some b → w.heap.size ≤ b) (hB : B ≤ w.heap.size) : FOs w' bs B (rs ++ [r]) := by
  refine ⟨fun x hx => ?_, fun x hx b e => ?_, ?_⟩
  · rcases List.mem_append.1 hx with hx | hx
    · exact (h.own x hx).fr hf fun k e => hS x hx k e
    · simp at hx; subst hx; exact ho
  · rcases List.mem_append.1 hx with hx | hx
    · exact h.new x hx b e
    · simp at hx; subst hx; exact Nat.le_trans hB (hn b e)
  · rw [List.pairwise_append]
    refine ⟨h.ord, by simp, fun x hx y hy a b ha hb => ?_⟩
    simp at hy; subst hy
    have := (h.own x hx).lt a ha
    have := hn b hb
    omega
def GetPost (f : FO → List Value) (e0 : TypeId) (size : Nat) (bs : List Nat) (w : World) (e : Ending) (w' : World) : Prop :=
  ∃ (rs : List FO) (A : Option Addr) (k c : Nat) (g : Option Nat), e = .returned (.tuple #[.slice A k c, .int .i64 ((getAll bs).2.1 : Int), .int .i64 (getAll bs).2.2]) ∧ k = rs.length ∧ rs.map (·.F) = (getAll bs).1 ∧
    Ow w' e0 size A k c (rs.flatMap f) g ∧ (∀ b, g = some b → w.heap.size ≤ b) ∧ FOs w' bs w.heap.size rs ∧ Fr (fun _ => False) w w'

end Go.Proofs.Ytahhecendjfenaa
end
