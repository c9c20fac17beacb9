/-
  drr: which service comes next (plain).
-/
import Derived.Test.YtanfhmebjgmdpaaDr3
namespace Go.Proofs.Ytanfhmebjgmdpaa
set_option linter.unusedVariables false
section
variable {X : Type} (cost : X → Int)
theorem visit_put (s : DS X) (k : Nat) (l l' : LN X) : (visit s k l).put k l' = s.put k l' := by
  unfold visit DS.put; simp
theorem adv_cases : ∀ (m : Nat) (s : DS X) (k : Nat), m = s.lines.length - k → 8 ≤ s.quantum → (∀ l ∈ s.lines, ∀ x ∈ l.things, 1 ≤ cost x ∧ cost x ≤ 8) → (∀ l ∈ s.lines, 0 ≤ l.df) →
    (∃ k' l x t, k ≤ k' ∧ s.lines[k']? = some l ∧ l.things = x :: t ∧ (∀ j l', k ≤ j → j < k' → s.lines[j]? = some l' → l'.things = []) ∧
      adv cost m s k = ⟨s.put k' { l with things := t, df := if t = [] then 0 else l.df + s.quantum - cost x }, k', true, some (k', x), false⟩) ∨
    ((∀ j l', k ≤ j → s.lines[j]? = some l' → l'.things = []) ∧ ∃ k', adv cost m s k = ⟨{ s with busy := false }, k', false, none, true⟩)
  | 0, s, k, hm, hq, hco, hdf => .inr ⟨fun j l' hj hl => by
      have := (List.getElem?_eq_some_iff.1 hl).1; omega, k, rfl⟩
  | m + 1, s, k, hm, hq, hco, hdf => by
    have hk : k < s.lines.length := by omega
    obtain ⟨l, hl⟩ : ∃ l, s.lines[k]? = some l := ⟨_, List.getElem?_eq_getElem hk⟩
    have hlm := List.mem_of_getElem? hl
    by_cases ht : l.things = []
    · have he : adv cost (m + 1) s k = adv cost m s (k + 1) := by rw [adv, hl]; simp only [ht, if_pos]
      rw [he]
      rcases adv_cases m s (k + 1) (by omega) hq hco hdf with ⟨k', l', x, t, h1, h2, h3, h4, h5⟩ | ⟨h1, k', h2⟩
      · refine .inl ⟨k', l', x, t, by omega, h2, h3, fun j b hj hjk hb => ?_, h5⟩
        by_cases hjk2 : j = k
        · subst hjk2; rw [hl] at hb; cases hb; exact ht
        · exact h4 j b (by omega) hjk hb
      · refine .inr ⟨fun j b hj hb => ?_, k', h2⟩
        by_cases hjk2 : j = k
        · subst hjk2; rw [hl] at hb; cases hb; exact ht
        · exact h1 j b (by omega) hb
    · obtain ⟨x, t, hx⟩ := List.exists_cons_of_ne_nil ht
      have hc := hco l hlm x (by rw [hx]; simp)
      have hd := hdf l hlm
      refine .inl ⟨k, l, x, t, Nat.le_refl _, hl, hx, fun j b hj hjk _ => by omega, ?_⟩
      have hv := visit_at hl
      have he : adv cost (m + 1) s k = goOn cost (visit s k l) k := by
        have := adv_visit cost hl ht
        rwa [← hm] at this
      rw [he, goOn_some cost hv hx (show cost x ≤ l.df + (s.quantum : Int) by omega), visit_put]
      rfl
theorem goOn_cases (s : DS X) (k : Nat) (l : LN X) (hl : s.lines[k]? = some l) :
    (∃ x t, l.things = x :: t ∧ cost x ≤ l.df ∧ goOn cost s k = ⟨s.put k (l.served cost x t), k, true, some (k, x), false⟩) ∨
    ((∀ x t, l.things = x :: t → l.df < cost x) ∧ goOn cost s k = adv cost (s.lines.length - (k + 1)) s (k + 1)) := by
  by_cases h : ∃ x t, l.things = x :: t ∧ cost x ≤ l.df
  · obtain ⟨x, t, h1, h2⟩ := h
    exact .inl ⟨x, t, h1, h2, goOn_some cost hl h1 h2⟩
  · have hx : ∀ x t, l.things = x :: t → l.df < cost x := fun x t e => by
      rcases Int.lt_or_le l.df (cost x) with h1 | h1
      · exact h1
      · exact absurd ⟨x, t, e, h1⟩ h
    exact .inr ⟨hx, goOn_none cost hl hx⟩
end
end Go.Proofs.Ytanfhmebjgmdpaa
