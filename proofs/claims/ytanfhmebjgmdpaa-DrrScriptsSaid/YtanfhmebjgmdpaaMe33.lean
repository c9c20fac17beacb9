/-
  Texts merged into one, to keep the claim small: DxC.
-/
import Derived.Test.YtanfhmebjgmdpaaMe32
/-
  DrrScripts: a round of the server and one of the document's go on alike (plain).
-/
namespace Go.Proofs.Ytanfhmebjgmdpaa.Qi
open Go.RowKit
set_option linter.unusedVariables false
/-- Two servers that hold the same. -/
structure LikeS (s t : DS (Int × Int)) : Prop where
  q : s.quantum = t.quantum
  l : s.lines.map con = t.lines.map con
theorem LikeS.len {s t : DS (Int × Int)} (h : LikeS s t) : s.lines.length = t.lines.length := by have := congrArg List.length h.l; simpa using this
theorem LikeS.get {s t : DS (Int × Int)} (h : LikeS s t) {k : Nat} {l : LN (Int × Int)} (hl : s.lines[k]? = some l) : ∃ m, t.lines[k]? = some m ∧ m.things = l.things ∧ m.df = l.df := by
  have h1 := congrArg (fun L => L[k]?) h.l
  simp only [List.getElem?_map, hl, Option.map_some] at h1
  cases h2 : t.lines[k]? with
  | none => rw [h2] at h1; cases h1
  | some m =>
    rw [h2] at h1
    have h3 : con l = con m := Option.some.inj h1
    exact ⟨m, rfl, (congrArg Prod.fst h3).symm, (congrArg Prod.snd h3).symm⟩
theorem LikeS.none_ {s t : DS (Int × Int)} (h : LikeS s t) {k : Nat} (hl : s.lines[k]? = none) : t.lines[k]? = none := by
  rw [List.getElem?_eq_none_iff] at hl ⊢
  rw [← h.len]; exact hl
theorem LikeS.put {s t : DS (Int × Int)} (h : LikeS s t) (k : Nat) {l m : LN (Int × Int)} (hc : con l = con m) : LikeS (s.put k l) (t.put k m) :=
  ⟨h.q, by show (s.lines.set k l).map con = (t.lines.set k m).map con; rw [List.map_set, List.map_set, h.l, hc]⟩
theorem LikeS.visit {s t : DS (Int × Int)} (h : LikeS s t) (k : Nat) {l m : LN (Int × Int)} (h1 : m.things = l.things) (h2 : m.df = l.df) : LikeS (visit s k l) (visit t k m) :=
  h.put k (by show (l.things, l.df + (s.quantum : Int)) = (m.things, m.df + (t.quantum : Int)); rw [h1, h2, h.q])
theorem LikeS.busy {s t : DS (Int × Int)} (h : LikeS s t) (b c : Bool) : LikeS { s with busy := b } { t with busy := c } := ⟨h.q, h.l⟩
structure LikeR (r t : RSt (Int × Int)) : Prop where
  s : LikeS r.s t.s
  k : r.k = t.k
  vis : r.vis = t.vis
  pend : r.pend = t.pend
  fin : r.fin = t.fin
theorem vstep_like {s t : DS (Int × Int)} (h : LikeS s t) (k : Nat) : (vstep xc s k = none ∧ vstep costP t k = none) ∨ ∃ r r', vstep xc s k = some r ∧ vstep costP t k = some r' ∧ LikeR r r' := by
  cases hl : s.lines[k]? with
  | none => left; simp only [vstep, hl, h.none_ hl]; exact ⟨trivial, trivial⟩
  | some l =>
    obtain ⟨m, hm, h1, h2⟩ := h.get hl
    cases hx : l.things with
    | nil => left; simp only [vstep, hl, hm, h1, hx]; exact ⟨trivial, trivial⟩
    | cons x xs =>
      have hx' : m.things = x :: xs := h1.trans hx
      by_cases hc : x.2 ≤ l.df
      · right
        have hc1 : xc x ≤ l.df := hc
        have hc2 : costP x ≤ m.df := by rw [h2]; exact hc
        refine ⟨⟨s.put k (LN.served xc l x xs), k, true, some (k, x), false⟩, ⟨t.put k (LN.served costP m x xs), k, true, some (k, x), false⟩, by simp only [vstep, hl, hx, if_pos hc1], by simp only [vstep, hm, hx', if_pos hc2], h.put k ?_, rfl, rfl, rfl, rfl⟩
        show (xs, if xs = [] then 0 else l.df - xc x) = (xs, if xs = [] then 0 else m.df - costP x)
        rw [h2]; rfl
      · left
        have hc1 : ¬ xc x ≤ l.df := hc
        have hc2 : ¬ costP x ≤ m.df := by rw [h2]; exact hc
        simp only [vstep, hl, hm, hx, hx', if_neg hc1, if_neg hc2]; exact ⟨trivial, trivial⟩
theorem adv_like : ∀ (m : Nat) {s t : DS (Int × Int)} (h : LikeS s t) (k : Nat), LikeR (adv xc m s k) (adv costP m t k)
  | 0, s, t, h, k => ⟨h.busy _ _, rfl, rfl, rfl, rfl⟩
  | m + 1, s, t, h, k => by
    cases hl : s.lines[k]? with
    | none => simp only [adv, hl, h.none_ hl]; exact ⟨h.busy _ _, rfl, rfl, rfl, rfl⟩
    | some l =>
      obtain ⟨n, hn, h1, h2⟩ := h.get hl
      by_cases he : l.things = []
      · have he' : n.things = [] := h1.trans he
        simp only [adv, hl, hn, if_pos he, if_pos he']
        exact adv_like m h (k + 1)
      · have he' : ¬ n.things = [] := fun e => he (h1.symm.trans e)
        have hv := h.visit k h1 h2
        simp only [adv, hl, hn, if_neg he, if_neg he']
        rcases vstep_like hv k with ⟨a1, a2⟩ | ⟨r, r', a1, a2, a3⟩
        · rw [a1, a2]; exact adv_like m hv (k + 1)
        · rw [a1, a2]; exact a3
theorem goOn_like {s t : DS (Int × Int)} (h : LikeS s t) (k : Nat) : LikeR (goOn xc s k) (goOn costP t k) := by
  unfold goOn
  rcases vstep_like h k with ⟨a1, a2⟩ | ⟨r, r', a1, a2, a3⟩
  · rw [a1, a2, h.len]; exact adv_like _ h (k + 1)
  · rw [a1, a2]; exact a3
theorem Like.s {s : DS (Int × Int)} {r : DR} (h : Like s r) : LikeS s (toDS r) := ⟨h.quantum, by rw [h.lines]; simp [toDS, conD, con, toLN]⟩
/-- The program's round and the document's. -/
theorem go_like {r0 : RSt (Int × Int)} {rd : DR} (h : Like r0.s rd) (hv : rd.vis = r0.vis) : LikeR (r0.go xc) (Gs (toDS rd) r0.k rd.vis) := by
  unfold RSt.go Gs
  rw [hv]
  cases r0.vis with
  | true => simp only [if_true]; exact goOn_like h.s _
  | false =>
    simp only [Bool.false_eq_true, if_false]
    have h1 : LikeS { r0.s with busy := true } (toDS rd) := ⟨h.s.q, h.s.l⟩
    have := adv_like (r0.s.lines.length - r0.k) h1 r0.k
    rw [toDS_len, ← h.len]
    exact this
/-- The document's server is fine, where the program's is. -/
theorem Like.fine {w : World} {d L : Nat} {D : Int} {s : DS (Int × Int)} {r : DR} (h : Like s r) (hd : DrrAt w d L D s) (hr : s.room ≤ 65536) : r.Fine := by
  have hg : ∀ m ∈ r.lines, ∃ l ∈ s.lines, m.things = l.things ∧ m.df = l.df := fun m hm => by
    obtain ⟨i, hi⟩ := List.mem_iff_getElem?.1 hm
    have h1 := congrArg (fun L => L[i]?) h.lines
    simp only [List.getElem?_map, hi, Option.map_some] at h1
    cases h2 : s.lines[i]? with
    | none => rw [h2] at h1; cases h1
    | some l =>
      rw [h2] at h1
      have h3 : con l = conD m := Option.some.inj h1
      exact ⟨l, List.mem_of_getElem? h2, (congrArg Prod.fst h3).symm, (congrArg Prod.snd h3).symm⟩
  refine ⟨by rw [← h.quantum]; exact hd.ok.q1, by rw [← h.quantum]; exact hd.ok.q2, by rw [← h.len]; exact hd.ok.n2, by rw [← h.room]; exact hr, fun m hm x hx => ?_, fun m hm => ?_, fun m hm => ?_⟩
  · obtain ⟨l, hl, e1, e2⟩ := hg m hm
    rw [e1] at hx
    exact hd.ok.co l hl x hx
  · obtain ⟨l, hl, e1, e2⟩ := hg m hm
    rw [e1]
    have := (hd.ring l hl).bounds
    omega
  · obtain ⟨l, hl, e1, e2⟩ := hg m hm
    rw [e2]
    have h1 := hd.ok.df l hl
    have h2 := hd.ok.d2
    omega
end Go.Proofs.Ytanfhmebjgmdpaa.Qi
