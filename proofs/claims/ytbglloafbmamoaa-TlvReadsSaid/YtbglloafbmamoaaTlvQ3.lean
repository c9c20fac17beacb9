/-
  The readers of a script.
-/
import Derived.Test.YtbglloafbmamoaaTlvQ2
namespace Go.Proofs.Ytbglloafbmamoaa
open Go.RowKit
set_option linter.unusedVariables false

/-- A pair of readers, or nil ones. -/
abbrev RE := Option (TRd × RRd × RD)
def tv (x : RE) : Value := match x with | none => .pointer none | some (r, _, _) => rp r.p
def qv (x : RE) : Value := match x with | none => .pointer none | some (_, q, _) => rp q.q
def Apart (x y : RE) : Prop := ∀ r q d r' q' d', x = some (r, q, d) → y = some (r', q', d') → (∀ z, r.foot z → ¬ r'.foot z) ∧ (∀ z, q.foot z → ¬ q'.foot z)
structure LI (w0 w : World) (pf b wq : Nat) (f : RF) (l : List RE) : Prop where
  ps : ∀ r q d, some (r, q, d) ∈ l → PS w pf b r wq q d f
  ft : Flt w 135 pf f
  fq : Flt w 139 wq f
  ap : l.Pairwise Apart
  new : w0.heap.size ≤ pf ∧ w0.heap.size ≤ wq ∧ ∀ r q d, some (r, q, d) ∈ l → (∀ z, r.foot z → w0.heap.size ≤ z) ∧ (∀ z, q.foot z → w0.heap.size ≤ z)
  fr : Fr (fun _ => False) w0 w
theorem LI.sub {w0 w : World} {pf b wq : Nat} {f : RF} {l l' : List RE} (h : LI w0 w pf b wq f l) (hs : l'.Sublist l) : LI w0 w pf b wq f l' :=
  ⟨fun r q d hm => h.ps r q d (hs.mem hm), h.ft, h.fq, h.ap.sublist hs, ⟨h.new.1, h.new.2.1, fun r q d hm => h.new.2.2 r q d (hs.mem hm)⟩, h.fr⟩
theorem LI.set_ge {w0 w : World} {pf b wq : Nat} {f : RF} {l : List RE} (h : LI w0 w pf b wq f l) {r : TRd} {q : RRd} {d : RD} (hm : some (r, q, d) ∈ l) : ∀ x, PSet pf r wq q x → w0.heap.size ≤ x := by
  rintro x ((rfl | hx) | (rfl | hx))
  · exact h.new.1
  · exact (h.new.2.2 r q d hm).1 x hx
  · exact h.new.2.1
  · exact (h.new.2.2 r q d hm).2 x hx
theorem PS.typedSet {w : World} {pf b : Nat} {r : TRd} {wq : Nat} {q : RRd} {d : RD} {f : RF} (h : PS w pf b r wq q d f) : Within w (PSet pf r wq q) := h.withinT.or h.withinR
theorem PS.lt {w : World} {pf b : Nat} {r : TRd} {wq : Nat} {q : RRd} {d : RD} {f : RF} (h : PS w pf b r wq q d f) : ∀ x, PSet pf r wq q x → x < w.heap.size := by
  rintro x ((rfl | hx) | (rfl | hx))
  · exact Bl.lt h.ft
  · exact h.tr.lt x hx
  · exact Bl.lt h.fq
  · exact h.rr.lt x hx
/-- Another pair, beside a call on one. -/
theorem PS.side {w w' : World} {pf b : Nat} {r r2 : TRd} {wq : Nat} {q q2 : RRd} {d d2 : RD} {f f' : RF} (h : PS w pf b r wq q d f) (h2 : PS w pf b r2 wq q2 d2 f) (a1 : ∀ z, r2.foot z → ¬ r.foot z) (a2 : ∀ z, q2.foot z → ¬ q.foot z) (hf : Fr (PSet pf r wq q) w w') (hft : Flt w' 135 pf f') (hfq : Flt w' 139 wq f') : PS w' pf b r2 wq q2 d2 f' := by
  refine ⟨h2.tr.fr hf h.typedSet fun x hx e => ?_, h2.rr.fr hf h.typedSet fun x hx e => ?_, hft, hfq⟩
  · have hx0 := hx
    obtain ⟨y, hy, rfl⟩ := hx0
    obtain ⟨i, hi, rfl⟩ := List.getElem_of_mem hy
    have h3 := (h2.tr.at_ i hi).bl.typed
    rcases e with (e | e) | (e | e)
    · exact absurd (h3.same (e ▸ Bl.typed h.ft)) (by decide)
    · exact a1 _ hx e
    · exact absurd (h3.same (e ▸ Bl.typed h.fq)) (by decide)
    · exact absurd (h3.same (h.rr.ls.typed _ e.symm)) (by decide)
  · have h3 := h2.rr.ls.typed x hx.symm
    rcases e with (e | e) | (e | e)
    · exact absurd (h3.same (e ▸ Bl.typed h.ft)) (by decide)
    · obtain ⟨y, hy, rfl⟩ := e
      obtain ⟨i, hi, rfl⟩ := List.getElem_of_mem hy
      exact absurd (h3.same (h.tr.at_ i hi).bl.typed) (by decide)
    · exact absurd (h3.same (e ▸ Bl.typed h.fq)) (by decide)
    · exact a2 _ hx e
theorem LI.apart_at {w0 w : World} {pf b wq : Nat} {f : RF} {l : List RE} (h : LI w0 w pf b wq f l) {i j : Nat} {r r' : TRd} {q q' : RRd} {d d' : RD} (hi : l[i]? = some (some (r, q, d))) (hj : l[j]? = some (some (r', q', d'))) (hij : i ≠ j) : (∀ z, r.foot z → ¬ r'.foot z) ∧ (∀ z, q.foot z → ¬ q'.foot z) := by
  have hp := List.pairwise_iff_getElem.1 h.ap
  obtain ⟨hi1, e1⟩ := List.getElem?_eq_some_iff.1 hi
  obtain ⟨hj1, e2⟩ := List.getElem?_eq_some_iff.1 hj
  rcases Nat.lt_or_gt_of_ne hij with h3 | h3
  · exact hp i j hi1 hj1 h3 _ _ _ _ _ _ e1 e2
  · have := hp j i hj1 hi1 h3 _ _ _ _ _ _ e2 e1
    exact ⟨fun z h1 h2 => this.1 z h2 h1, fun z h1 h2 => this.2 z h2 h1⟩
/-- A call on pair k. -/
theorem LI.step {w0 w w' : World} {pf b wq : Nat} {f f' : RF} {l : List RE} (h : LI w0 w pf b wq f l) {k : Nat} {r : TRd} {q : RRd} {d d' : RD} (hk : l[k]? = some (some (r, q, d))) (hP : PS w' pf b r wq q d' f') (hf : Fr (PSet pf r wq q) w w') : LI w0 w' pf b wq f' (l.set k (some (r, q, d'))) := by
  have hm := List.mem_of_getElem? hk
  have hP0 := h.ps r q d hm
  have hkl := (List.getElem?_eq_some_iff.1 hk).1
  have hset : ∀ r2 q2 d2, some (r2, q2, d2) ∈ l.set k (some (r, q, d')) → (r2 = r ∧ q2 = q ∧ d2 = d') ∨ ∃ j, j ≠ k ∧ l[j]? = some (some (r2, q2, d2)) := by
    intro r2 q2 d2 h2
    obtain ⟨j, hj⟩ := List.mem_iff_getElem?.1 h2
    by_cases hjk : k = j
    · subst hjk
      rw [List.getElem?_set_self hkl] at hj
      cases hj; exact .inl ⟨rfl, rfl, rfl⟩
    · rw [List.getElem?_set_ne hjk] at hj
      exact .inr ⟨j, Ne.symm hjk, hj⟩
  refine ⟨fun r2 q2 d2 h2 => ?_, hP.ft, hP.fq, ?_, ⟨h.new.1, h.new.2.1, fun r2 q2 d2 h2 => ?_⟩, h.fr.comp hf fun x hx e => by have := h.set_ge hm x e; omega⟩
  · rcases hset r2 q2 d2 h2 with ⟨rfl, rfl, rfl⟩ | ⟨j, hjk, hj⟩
    · exact hP
    · obtain ⟨a1, a2⟩ := h.apart_at hj hk hjk
      exact hP0.side (h.ps _ _ _ (List.mem_of_getElem? hj)) a1 a2 hf hP.ft hP.fq
  · rw [List.pairwise_iff_getElem]
    intro i j hi hj hij r1 q1 d1 r2 q2 d2 e1 e2
    rw [List.length_set] at hi hj
    rw [List.getElem_set] at e1 e2
    have key : ∀ (j : Nat) (hj : j < l.length), j ≠ k → ∀ r2 q2 d2, l[j] = some (r2, q2, d2) → (∀ z, r.foot z → ¬ r2.foot z) ∧ (∀ z, q.foot z → ¬ q2.foot z) := fun j hj hjk r2 q2 d2 e =>
      h.apart_at hk (by rw [List.getElem?_eq_getElem hj, e]) (Ne.symm hjk)
    by_cases hik : k = i
    · rw [if_pos hik] at e1
      rw [if_neg (by omega)] at e2
      cases e1
      exact key j hj (by omega) _ _ _ e2
    · rw [if_neg hik] at e1
      by_cases hjk : k = j
      · rw [if_pos hjk] at e2
        cases e2
        obtain ⟨x1, x2⟩ := key i hi (by omega) _ _ _ e1
        exact ⟨fun z h1 h2 => x1 z h2 h1, fun z h1 h2 => x2 z h2 h1⟩
      · rw [if_neg hjk] at e2
        exact List.pairwise_iff_getElem.1 h.ap i j hi hj hij _ _ _ _ _ _ e1 e2
  · rcases hset r2 q2 d2 h2 with ⟨rfl, rfl, rfl⟩ | ⟨j, hjk, hj⟩
    · exact h.new.2.2 _ _ _ hm
    · exact h.new.2.2 _ _ _ (List.mem_of_getElem? hj)
theorem map_set_same {α β : Type} (g : α → β) {l : List α} {k : Nat} {x y : α} (hk : l[k]? = some x) (h : g y = g x) : (l.set k y).map g = l.map g := by
  refine List.ext_getElem? fun i => ?_
  rw [List.getElem?_map, List.getElem?_map]
  by_cases hik : k = i
  · subst hik
    rw [List.getElem?_set_self (List.getElem?_eq_some_iff.1 hk).1, hk]; simp [h]
  · rw [List.getElem?_set_ne hik]
theorem LI.quiet {w0 w w' : World} {pf b wq : Nat} {f : RF} {l : List RE} (h : LI w0 w pf b wq f l) (hf : Fr (fun _ => False) w w') : LI w0 w' pf b wq f l :=
  ⟨fun r q d hm => (h.ps r q d hm).quiet hf, h.ft.fr hf id, h.fq.fr hf id, h.ap, h.new, h.fr.trans hf⟩
/-- Only a block of the lists themselves turns. -/
theorem LI.off {w0 w w' : World} {pf b wq : Nat} {f : RF} {l : List RE} {S : Nat → Prop} {t : TypeId} (h : LI w0 w pf b wq f l) (hf : Fr S w w') (hS : ∀ x, S x → Typed w x t) (h0 : ∀ x, S x → w0.heap.size ≤ x) (ht : t = 84 ∨ t = 87) : LI w0 w' pf b wq f l := by
  have hn : ∀ {x t'}, Typed w x t' → t' ≠ t → ¬ S x := fun hx hne e => hne (hx.same (hS _ e))
  refine ⟨fun r q d hm => ⟨?_, ?_, ?_, ?_⟩, ?_, ?_, h.ap, h.new, h.fr.comp hf fun x hx e => by have := h0 x e; omega⟩
  · rcases ht with rfl | rfl <;> exact (h.ps r q d hm).tr.off hf hS (by decide) (by decide) (by decide) (by decide)
  · rcases ht with rfl | rfl <;> exact (h.ps r q d hm).rr.off hf hS (by decide) (by decide) (by decide)
  · exact h.ft.fr hf (hn (Bl.typed h.ft) (by rcases ht with rfl | rfl <;> decide))
  · exact h.fq.fr hf (hn (Bl.typed h.fq) (by rcases ht with rfl | rfl <;> decide))
  · exact h.ft.fr hf (hn (Bl.typed h.ft) (by rcases ht with rfl | rfl <;> decide))
  · exact h.fq.fr hf (hn (Bl.typed h.fq) (by rcases ht with rfl | rfl <;> decide))
/-- Pairs that came out of a call. -/
def pairs (rs : List TRd) (qs : List RRd) (ds : List RD) : List RE := (rs.zip (qs.zip ds)).map some
theorem pairs_len {rs : List TRd} {qs : List RRd} {ds : List RD} (h1 : rs.length = ds.length) (h2 : qs.length = ds.length) : (pairs rs qs ds).length = ds.length := by simp [pairs]; omega
theorem pairs_at {rs : List TRd} {qs : List RRd} {ds : List RD} {i : Nat} (h1 : i < rs.length) (h2 : i < qs.length) (h3 : i < ds.length) : (pairs rs qs ds)[i]? = some (some (rs[i], qs[i], ds[i])) := by
  simp [pairs, h1, h2, h3, List.getElem?_zip_eq_some]
theorem LI.add {w0 w w' : World} {pf b wq : Nat} {f f' : RF} {l0 l : List RE} (h0 : LI w0 w pf b wq f l0) (h : LI w0 w' pf b wq f' l) (hl : ∀ r q d, some (r, q, d) ∈ l → ∃ d0, some (r, q, d0) ∈ l0) {rs : List TRd} {qs : List RRd} {ds : List RD} (hR : Rds w' pf b w.heap.size rs ds) (hQ : Rrs w' wq w.heap.size qs ds) : LI w0 w' pf b wq f' (l ++ pairs rs qs ds) := by
  have hs := h0.fr.size
  have hin : ∀ r q d, some (r, q, d) ∈ pairs rs qs ds → ∃ i, ∃ (h1 : i < rs.length) (h2 : i < qs.length) (h3 : i < ds.length), r = rs[i] ∧ q = qs[i] ∧ d = ds[i] := by
    intro r q d hm
    obtain ⟨i, hi⟩ := List.mem_iff_getElem?.1 hm
    have hlt := (List.getElem?_eq_some_iff.1 hi).1
    rw [pairs_len hR.len hQ.len] at hlt
    have h1 : i < rs.length := by rw [hR.len]; exact hlt
    have h2 : i < qs.length := by rw [hQ.len]; exact hlt
    rw [pairs_at h1 h2 hlt] at hi
    cases hi
    exact ⟨i, h1, h2, hlt, rfl, rfl, rfl⟩
  refine ⟨fun r q d hm => ?_, h.ft, h.fq, ?_, ⟨h.new.1, h.new.2.1, fun r q d hm => ?_⟩, h.fr⟩
  · rcases List.mem_append.1 hm with hm | hm
    · exact h.ps r q d hm
    · obtain ⟨i, h1, h2, h3, rfl, rfl, rfl⟩ := hin r q d hm
      exact ⟨hR.tr i h1 h3, hQ.rr i h2 h3, h.ft, h.fq⟩
  · rw [List.pairwise_append]
    refine ⟨h.ap, ?_, fun x hx y hy r q d r' q' d' e1 e2 => ?_⟩
    · rw [List.pairwise_iff_getElem]
      intro i j hi hj hij r q d r' q' d' e1 e2
      have hi' : i < ds.length := by rw [pairs_len hR.len hQ.len] at hi; exact hi
      have hj' : j < ds.length := by rw [pairs_len hR.len hQ.len] at hj; exact hj
      have g1 : i < rs.length := by rw [hR.len]; exact hi'
      have g2 : j < rs.length := by rw [hR.len]; exact hj'
      have g3 : i < qs.length := by rw [hQ.len]; exact hi'
      have g4 : j < qs.length := by rw [hQ.len]; exact hj'
      have z1 := pairs_at g1 g3 hi'
      have z2 := pairs_at g2 g4 hj'
      rw [List.getElem?_eq_getElem hi, e1] at z1
      rw [List.getElem?_eq_getElem hj, e2] at z2
      cases z1; cases z2
      exact ⟨List.pairwise_iff_getElem.1 hR.ap i j g1 g2 hij, List.pairwise_iff_getElem.1 hQ.ap i j g3 g4 hij⟩
    · subst e1; subst e2
      obtain ⟨d0, hd0⟩ := hl r q d hx
      have hP := h0.ps r q d0 hd0
      obtain ⟨i, h1, h2, h3, rfl, rfl, rfl⟩ := hin r' q' d' hy
      refine ⟨fun z z1 z2 => ?_, fun z z1 z2 => ?_⟩
      · have := hP.tr.lt z z1
        have := hR.new _ (List.getElem_mem h1) z z2
        omega
      · have := hP.rr.lt z z1
        have := hQ.new _ (List.getElem_mem h2) z z2
        omega
  · rcases List.mem_append.1 hm with hm | hm
    · exact h.new.2.2 r q d hm
    · obtain ⟨i, h1, h2, h3, rfl, rfl, rfl⟩ := hin r q d hm
      exact ⟨fun z hz => Nat.le_trans hs (hR.new _ (List.getElem_mem h1) z hz), fun z hz => Nat.le_trans hs (hQ.new _ (List.getElem_mem h2) z hz)⟩
end Go.Proofs.Ytbglloafbmamoaa
