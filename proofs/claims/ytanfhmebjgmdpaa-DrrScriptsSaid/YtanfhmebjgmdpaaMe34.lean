/-
  Texts merged into one, to keep the claim small: DxD.
-/
import Derived.Test.YtanfhmebjgmdpaaMe33
/-
  DrrScripts: how far a round lets deficits rise (plain); what stands while goes' range runs.
-/
namespace Go.Proofs.Ytanfhmebjgmdpaa.Qi
open Go.RowKit
set_option linter.unusedVariables false
/-- All deficits, and those that may still rise. -/
structure Low (D : Int) (r : RSt (Int × Int)) : Prop where
  all : ∀ l ∈ r.s.lines, l.df ≤ D + 1024
  ok : r.Ok D
theorem low_put {D : Int} {s : DS (Int × Int)} {k : Nat} {l' : LN (Int × Int)} (h : ∀ l ∈ s.lines, l.df ≤ D + 1024) (hl : l'.df ≤ D + 1024) : ∀ l ∈ (s.put k l').lines, l.df ≤ D + 1024 := fun l hm => by
  obtain ⟨j, hj⟩ := List.mem_iff_getElem?.1 hm
  have hj' : (s.lines.set k l')[j]? = some l := hj
  by_cases hkj : k = j
  · subst hkj
    by_cases hk : k < s.lines.length
    · rw [List.getElem?_set_self hk] at hj'
      cases hj'; exact hl
    · rw [List.getElem?_eq_none_iff.2 (by simp; omega)] at hj'
      cases hj'
  · rw [List.getElem?_set_ne hkj] at hj'
    exact h l (List.mem_of_getElem? hj')
theorem put_other {s : DS (Int × Int)} {k j : Nat} {l' l : LN (Int × Int)} (hkj : k ≠ j) (h : (s.put k l').lines[j]? = some l) : s.lines[j]? = some l := by
  have hj' : (s.lines.set k l')[j]? = some l := h
  rwa [List.getElem?_set_ne hkj] at hj'
/-- A served line. -/
theorem vstep_low {D : Int} (hD : 0 ≤ D) {s : DS (Int × Int)} {k : Nat} {r : RSt (Int × Int)} (hr : vstep xc s k = some r) (hc : ∀ l ∈ s.lines, ∀ x ∈ l.things, 1 ≤ xc x ∧ xc x ≤ 8) (h : ∀ l ∈ s.lines, l.df ≤ D + 1024)
    (hs : ∀ j l, s.lines[j]? = some l → k < j → l.df ≤ D) : Low D r ∧ r.pend ≠ none ∧ r.fin = false ∧ r.vis = true ∧ r.k = k := by
  unfold vstep at hr
  split at hr
  · cases hr
  · rename_i l hl
    split at hr
    · cases hr
    · rename_i x t hx
      split at hr
      · cases hr
        have hm := List.mem_of_getElem? hl
        have h1 := hc l hm x (by rw [hx]; simp)
        have h2 := h l hm
        refine ⟨⟨low_put h ?_, ⟨fun j b hb hj => ?_⟩⟩, by simp, rfl, rfl, rfl⟩
        · show (if t = [] then 0 else l.df - xc x) ≤ D + 1024
          split <;> omega
        · have hj' : k < j := by simpa using hj
          exact hs j b (put_other (by omega) hb) hj'
      · cases hr
theorem visit_co {s : DS (Int × Int)} {k : Nat} {l : LN (Int × Int)} (hl : s.lines[k]? = some l) (hc : ∀ l ∈ s.lines, ∀ x ∈ l.things, 1 ≤ xc x ∧ xc x ≤ 8) : ∀ m ∈ (visit s k l).lines, ∀ x ∈ m.things, 1 ≤ xc x ∧ xc x ≤ 8 := fun m hm x hx => by
  obtain ⟨j, hj⟩ := List.mem_iff_getElem?.1 hm
  by_cases hkj : j = k
  · subst hkj
    rw [visit_at hl] at hj
    cases hj
    exact hc l (List.mem_of_getElem? hl) x hx
  · rw [visit_other hkj] at hj
    exact hc m (List.mem_of_getElem? hj) x hx
theorem adv_low {D : Int} (hD : 0 ≤ D) : ∀ (m : Nat) (s : DS (Int × Int)) (k : Nat), s.quantum ≤ 1024 → (∀ l ∈ s.lines, ∀ x ∈ l.things, 1 ≤ xc x ∧ xc x ≤ 8) → (∀ l ∈ s.lines, l.df ≤ D + 1024) → (∀ j l, s.lines[j]? = some l → k ≤ j → l.df ≤ D) →
    Low D (adv xc m s k) ∧ ((adv xc m s k).pend ≠ none ∧ (adv xc m s k).fin = false ∨ (adv xc m s k).pend = none ∧ (adv xc m s k).fin = true ∧ (adv xc m s k).s.busy = false)
  | 0, s, k, hq, hc, h, hs => ⟨⟨h, ⟨fun j l hl hj => hs j l hl (by simpa [adv] using hj)⟩⟩, .inr ⟨rfl, rfl, rfl⟩⟩
  | m + 1, s, k, hq, hc, h, hs => by
    cases hl : s.lines[k]? with
    | none =>
      simp only [adv, hl]
      exact ⟨⟨h, ⟨fun j l hl hj => hs j l hl (by simpa using hj)⟩⟩, .inr ⟨trivial, trivial, trivial⟩⟩
    | some l =>
      by_cases he : l.things = []
      · simp only [adv, hl, if_pos he]
        exact adv_low hD m s (k + 1) hq hc h fun j b hb hj => hs j b hb (by omega)
      · simp only [adv, hl, if_neg he]
        have hm := List.mem_of_getElem? hl
        have h1 : ∀ b ∈ (visit s k l).lines, b.df ≤ D + 1024 := low_put h (by have := hs k l hl (Nat.le_refl _); show l.df + (s.quantum : Int) ≤ _; omega)
        have h2 : ∀ j b, (visit s k l).lines[j]? = some b → k < j → b.df ≤ D := fun j b hb hj => hs j b (by rwa [visit_other (by omega)] at hb) (by omega)
        cases hv : vstep xc (visit s k l) k with
        | some r =>
          obtain ⟨a1, a2, a3, -⟩ := vstep_low hD hv (visit_co hl hc) h1 h2
          exact ⟨a1, .inl ⟨a2, a3⟩⟩
        | none => exact adv_low hD m (visit s k l) (k + 1) hq (visit_co hl hc) h1 fun j b hb hj => h2 j b hb (by omega)
theorem go_low {D : Int} (hD : 0 ≤ D) {r : RSt (Int × Int)} (hq : r.s.quantum ≤ 1024) (hc : ∀ l ∈ r.s.lines, ∀ x ∈ l.things, 1 ≤ xc x ∧ xc x ≤ 8) (h : Low D r) :
    Low D (r.go xc) ∧ ((r.go xc).pend ≠ none ∧ (r.go xc).fin = false ∨ (r.go xc).pend = none ∧ (r.go xc).fin = true ∧ (r.go xc).s.busy = false) := by
  have hs := h.ok.small
  unfold RSt.go
  cases hv : r.vis with
  | false =>
    simp only [Bool.false_eq_true, if_false]
    exact adv_low hD _ { r.s with busy := true } r.k hq hc h.all fun j l hl hj => hs j l hl (by rw [hv]; simpa using hj)
  | true =>
    simp only [if_true]
    have hs' : ∀ j l, r.s.lines[j]? = some l → r.k < j → l.df ≤ D := fun j l hl hj => hs j l hl (by rw [hv]; simpa using hj)
    unfold goOn
    cases hw : vstep xc r.s r.k with
    | some t =>
      obtain ⟨a1, a2, a3, -⟩ := vstep_low hD hw hc h.all hs'
      exact ⟨a1, .inl ⟨a2, a3⟩⟩
    | none => exact adv_low hD _ r.s (r.k + 1) hq hc h.all fun j l hl hj => hs' j l hl (by omega)
theorem DrrAt.down_ {w : World} {d L : Nat} {D D' : Int} {s : DS (Int × Int)} (h : DrrAt w d L D s) (hD : 0 ≤ D') (hD' : D' ≤ 4611686018427387904) (hl : ∀ l ∈ s.lines, l.df ≤ D') : DrrAt w d L D' s :=
  ⟨h.bl, h.ls, h.ring, h.ap, ⟨h.ok.q1, h.ok.q2, h.ok.n1, h.ok.n2, hD, hD', h.ok.co, fun l hm => ⟨(h.ok.df l hm).1, hl l hm⟩⟩⟩
abbrev tPM : TypeId := 61
abbrev tOp : TypeId := 35
/-- The document stands where the program's round stands, or stood ahead of its last search. -/
structure Docs (q : Nat) (b : DB) (F : Nat → Prop) (r : RSt (Int × Int)) (rd : DR) (r0 : RSt (Int × Int)) (W : World) : Prop where
  at_ : DAt W q b rd
  ft : ∀ x, dfoot q b rd x → F x
  p0 : r0.pend = none
  f0 : r0.fin = false
  e : r = r0 ∨ (r = r0.go xc ∧ (r.pend ≠ none ∨ r.fin = true))
  like : Like r0.s rd
  a : rd.at_ = (r0.k : Int)
  v : rd.vis = r0.vis
  kn : r0.k ≤ rd.lines.length
  vn : r0.vis = true → r0.k < rd.lines.length
  fine : rd.Fine
/-- What stands while goes' range runs. -/
structure GJ (w0 : World) (s nb d L : Nat) (D : Int) (q : Nat) (b : DB) (F F1 : Nat → Prop) (op : Array Value) (r : RSt (Int × Int)) (W : World) : Prop where
  rh : RH (nb + 1) d L (D + 1024) r W
  low : Low D r
  docs : ∃ rd r0, Docs q b F r rd r0 W
  b3 : Bl W s tPD #[.pointer (some ⟨d, 0, none⟩)]
  b4 : Bl W (s + 1) tPM #[.pointer (some ⟨q, 0, none⟩)]
  b5 : Bl W (s + 2) tOp op
  b6 : Bl W (s + 3) 4 #[.bool false]
  b7 : ∃ nv, Bl W nb 3 #[.int .i64 nv]
  fr : Fr (fun x => F1 x ∨ F x ∨ s ≤ x) w0 W
  ft : ∀ x, drfoot d L r.s x → F1 x
  l1 : ∀ x, F1 x → x < s
  l2 : ∀ x, F x → x < s
  sz : w0.heap.size = s
  nbs : s + 4 ≤ nb
/-- Behind a round that was left. -/
structure GX (w0 : World) (s nb d L : Nat) (D : Int) (q : Nat) (b : DB) (F F1 : Nat → Prop) (r : RSt (Int × Int)) (W : World) : Prop where
  rh : RH (nb + 1) d L (D + 1024) r W
  all : ∀ l ∈ r.s.lines, l.df ≤ D + 1024
  docs : ∃ rd, DAt W q b rd ∧ (∀ x, dfoot q b rd x → F x) ∧ Like r.s rd ∧ rd.at_ = -1
  b6 : Bl W (s + 3) 4 #[.bool true]
  bz : r.fin = true → r.s.busy = false
  fr : Fr (fun x => F1 x ∨ F x ∨ s ≤ x) w0 W
  ft : ∀ x, drfoot d L r.s x → F1 x
  l1 : ∀ x, F1 x → x < s
  l2 : ∀ x, F x → x < s
  sz : w0.heap.size = s
section
variable {w0 W W' : World} {s nb d L : Nat} {D : Int} {q : Nat} {b : DB} {F F1 : Nat → Prop} {op : Array Value} {r r' : RSt (Int × Int)}
theorem RH.frX {D : Int} {bx : Nat} {S : Nat → Prop} (h : RH bx d L D r W) (hf : Fr S W W') (h1 : ∀ x, drfoot d L r.s x → ¬ S x) (h2 : ¬ S bx) : RH bx d L D r W' :=
  ⟨h.at_.fr hf h1, h.box.fr hf h2, h.ok, h.busy⟩
theorem GJ.fr_ {S : Nat → Prop} (h : GJ w0 s nb d L D q b F F1 op r W) (hf : Fr S W W') (hS : ∀ x, S x → ¬ F1 x ∧ ¬ F x ∧ x ≠ s ∧ x ≠ s + 1 ∧ x ≠ s + 2 ∧ x ≠ s + 3 ∧ x ≠ nb ∧ x ≠ nb + 1 ∧ s ≤ x) : GJ w0 s nb d L D q b F F1 op r W' := by
  obtain ⟨rd, r0, hd⟩ := h.docs
  obtain ⟨nv, h7⟩ := h.b7
  exact ⟨h.rh.frX hf (fun x hx e => (hS x e).1 (h.ft x hx)) (fun e => (hS _ e).2.2.2.2.2.2.2.1 rfl), h.low, ⟨rd, r0, hd.at_.fr hf (fun x hx e => (hS x e).2.1 (hd.ft x hx)), hd.ft, hd.p0, hd.f0, hd.e, hd.like, hd.a, hd.v, hd.kn, hd.vn, hd.fine⟩,
    h.b3.fr hf (fun e => (hS _ e).2.2.1 rfl), h.b4.fr hf (fun e => (hS _ e).2.2.2.1 rfl), h.b5.fr hf (fun e => (hS _ e).2.2.2.2.1 rfl), h.b6.fr hf (fun e => (hS _ e).2.2.2.2.2.1 rfl), ⟨nv, h7.fr hf (fun e => (hS _ e).2.2.2.2.2.2.1 rfl)⟩,
    h.fr.trans (hf.mono fun x _ e => .inr (.inr (hS x e).2.2.2.2.2.2.2.2)), h.ft, h.l1, h.l2, h.sz, h.nbs⟩
theorem row_none {row : Option Nat} (hr : ∀ r, row = some r → ∃ o : Obj, W.heap[r]? = some o ∧ o.isCells = false) {b : Nat} {t : TypeId} {cs : Array Value} (hb : Bl W b t cs) : ¬ some b = row := row_ne' (W' := W) hb hr
theorem GJ.own {B : Nat} (hB : s ≤ B) : OwnFrom B (GJ w0 s nb d L D q b F F1 op) := by
  rintro r W W' row h hg hr
  have hr' : ∀ r, row = some r → ∃ o : Obj, W.heap[r]? = some o ∧ o.isCells = false := fun r e => (hr r e).2
  obtain ⟨rd, r0, hd⟩ := h.docs
  obtain ⟨nv, h7⟩ := h.b7
  have hf := Fr.ofGrown hg
  exact ⟨h.rh.frX hf (fun x hx e => by obtain ⟨t, cs, hc, -⟩ := h.rh.at_.ty hx; exact row_none hr' hc e) (row_none hr' h.rh.box), h.low, ⟨rd, r0, hd.at_.fr hf (fun x hx e => by obtain ⟨t, cs, hc, -⟩ := hd.at_.ty hx; exact row_none hr' hc e), hd.ft, hd.p0, hd.f0, hd.e, hd.like, hd.a, hd.v, hd.kn, hd.vn, hd.fine⟩,
    blOwn h.b3 hg hr', blOwn h.b4 hg hr', blOwn h.b5 hg hr', blOwn h.b6 hg hr', ⟨nv, blOwn h7 hg hr'⟩, h.fr.trans (hf.mono fun k _ e => .inr (.inr (by have := (hr k e.symm).1; omega))), h.ft, h.l1, h.l2, h.sz, h.nbs⟩
theorem GX.own {B : Nat} (hB : s ≤ B) : OwnFrom B (GX w0 s nb d L D q b F F1) := by
  rintro r W W' row h hg hr
  have hr' : ∀ r, row = some r → ∃ o : Obj, W.heap[r]? = some o ∧ o.isCells = false := fun r e => (hr r e).2
  obtain ⟨rd, hd, hd2⟩ := h.docs
  have hf := Fr.ofGrown hg
  exact ⟨h.rh.frX hf (fun x hx e => by obtain ⟨t, cs, hc, -⟩ := h.rh.at_.ty hx; exact row_none hr' hc e) (row_none hr' h.rh.box), h.all, ⟨rd, hd.fr hf (fun x hx e => by obtain ⟨t, cs, hc, -⟩ := hd.ty hx; exact row_none hr' hc e), hd2⟩,
    blOwn h.b6 hg hr', h.bz, h.fr.trans (hf.mono fun k _ e => .inr (.inr (by have := (hr k e.symm).1; omega))), h.ft, h.l1, h.l2, h.sz⟩
theorem go_foot {r : RSt (Int × Int)} {W W' : World} {bx d L : Nat} {D : Int} {x : Nat} (h : RH bx d L D r W) (hf : Fr (drfoot d L r.s) W W') : KeepsFrom x W W' := hf.keepsFrom fun k hk => by
  obtain ⟨t, cs, hc, -⟩ := h.at_.ty hk
  exact .inr ⟨cs, t, (0, 0), hc⟩
end
end Go.Proofs.Ytanfhmebjgmdpaa.Qi
