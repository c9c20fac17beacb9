/-
  drr: how a round goes on (plain).
-/
import Derived.Test.YtanfhmebjgmdpaaDr0
namespace Go.Proofs.Ytanfhmebjgmdpaa
set_option linter.unusedVariables false
section
variable {X : Type}
/-- A line that was served. -/
def LN.served (cost : X → Int) (l : LN X) (x : X) (t : List X) : LN X := { l with things := t, df := if t = [] then 0 else l.df - cost x }
/-- A round: the server, the queue, whether it is visited, what was just served, whether it is over. -/
structure RSt (X : Type) where
  s : DS X
  k : Nat
  vis : Bool
  pend : Option (Nat × X)
  fin : Bool
/-- A service of line k, if its deficit allows it. -/
def vstep (cost : X → Int) (s : DS X) (k : Nat) : Option (RSt X) :=
  match s.lines[k]? with
  | none => none
  | some l => match l.things with
    | [] => none
    | x :: t => if cost x ≤ l.df then some ⟨s.put k (l.served cost x t), k, true, some (k, x), false⟩ else none
/-- Line k is visited. -/
def visit (s : DS X) (k : Nat) (l : LN X) : DS X := s.put k { l with df := l.df + s.quantum }
/-- On from line k, which is not yet visited; m lines are left. -/
def adv (cost : X → Int) : Nat → DS X → Nat → RSt X
  | 0, s, k => ⟨{ s with busy := false }, k, false, none, true⟩
  | m + 1, s, k => match s.lines[k]? with
    | none => ⟨{ s with busy := false }, k, false, none, true⟩
    | some l => if l.things = [] then adv cost m s (k + 1) else match vstep cost (visit s k l) k with
      | some r => r
      | none => adv cost m (visit s k l) (k + 1)
/-- On behind a service. -/
def goOn (cost : X → Int) (s : DS X) (k : Nat) : RSt X := match vstep cost s k with
  | some r => r
  | none => adv cost (s.lines.length - (k + 1)) s (k + 1)
def RSt.go (cost : X → Int) (r : RSt X) : RSt X :=
  if r.vis then goOn cost r.s r.k else adv cost (r.s.lines.length - r.k) { r.s with busy := true } r.k
/-- The deficits that may still rise are small. -/
structure RSt.Ok (D : Int) (r : RSt X) : Prop where
  small : ∀ j l, r.s.lines[j]? = some l → (if r.vis then r.k < j else r.k ≤ j) → l.df ≤ D
theorem visit_len (s : DS X) (k : Nat) (l : LN X) : (visit s k l).lines.length = s.lines.length := DS.put_len _ _ _
/-- The blocks stay the same. -/
theorem drfoot_put {d L : Nat} {s : DS X} {i : Nat} {l l' : LN X} (hl : s.lines[i]? = some l) (hp : l'.p = l.p) (hg : l'.g = l.g) (x : Nat) : drfoot d L (s.put i l') x ↔ drfoot d L s x := by
  have hi : i < s.lines.length := (List.getElem?_eq_some_iff.1 hl).1
  constructor
  · rintro (rfl | rfl | ⟨b, hb, hx⟩)
    · exact .inl rfl
    · exact .inr (.inl rfl)
    · obtain ⟨k, hk⟩ := List.mem_iff_getElem?.1 hb
      have hk2 : (s.lines.set i l')[k]? = some b := hk
      by_cases hki : k = i
      · subst hki
        rw [List.getElem?_set_self hi] at hk2
        cases hk2
        rw [hp, hg] at hx
        exact .inr (.inr ⟨l, List.mem_of_getElem? hl, hx⟩)
      · rw [List.getElem?_set_ne (fun e => hki e.symm)] at hk2
        exact .inr (.inr ⟨b, List.mem_of_getElem? hk2, hx⟩)
  · rintro (rfl | rfl | ⟨b, hb, hx⟩)
    · exact .inl rfl
    · exact .inr (.inl rfl)
    · obtain ⟨k, hk⟩ := List.mem_iff_getElem?.1 hb
      by_cases hki : k = i
      · subst hki
        rw [hl] at hk; cases hk
        refine .inr (.inr ⟨l', List.mem_of_getElem? (i := k) (show (s.lines.set k l')[k]? = some l' from List.getElem?_set_self hi), ?_⟩)
        rw [hp, hg]; exact hx
      · refine .inr (.inr ⟨b, List.mem_of_getElem? (i := k) (show (s.lines.set i l')[k]? = some b from ?_), hx⟩)
        rw [List.getElem?_set_ne (fun e => hki e.symm)]; exact hk
theorem visit_at {s : DS X} {k : Nat} {l : LN X} (hl : s.lines[k]? = some l) : (visit s k l).lines[k]? = some { l with df := l.df + s.quantum } :=
  List.getElem?_set_self (List.getElem?_eq_some_iff.1 hl).1
theorem visit_other {s : DS X} {k j : Nat} {l : LN X} (h : j ≠ k) : (visit s k l).lines[j]? = s.lines[j]? := by
  unfold visit DS.put
  exact List.getElem?_set_ne (fun e => h e.symm)
theorem visit_ok (cost : X → Int) {s : DS X} {k : Nat} {l : LN X} {D : Int} (hl : s.lines[k]? = some l) (h : s.Ok cost (D + 1024)) (hD : l.df ≤ D) : (visit s k l).Ok cost (D + 1024) := by
  have hq := h.q2
  have hdl := h.df l (List.mem_of_getElem? hl)
  refine ⟨h.q1, h.q2, by rw [visit_len]; exact h.n1, by rw [visit_len]; exact h.n2, h.d1, h.d2, fun b hb => ?_, fun b hb => ?_⟩
  · obtain ⟨j, hj⟩ := List.mem_iff_getElem?.1 hb
    by_cases hjk : j = k
    · subst hjk
      rw [visit_at hl] at hj; cases hj
      exact h.co l (List.mem_of_getElem? hl)
    · rw [visit_other hjk] at hj
      exact h.co b (List.mem_of_getElem? hj)
  · obtain ⟨j, hj⟩ := List.mem_iff_getElem?.1 hb
    by_cases hjk : j = k
    · subst hjk
      rw [visit_at hl] at hj; cases hj
      show 0 ≤ l.df + s.quantum ∧ l.df + s.quantum ≤ _
      omega
    · rw [visit_other hjk] at hj
      exact h.df b (List.mem_of_getElem? hj)
theorem adv_end (cost : X → Int) (m : Nat) (s : DS X) (k : Nat) (h : s.lines.length ≤ k) : adv cost m s k = ⟨{ s with busy := false }, k, false, none, true⟩ := by
  cases m with
  | zero => rfl
  | succ m => rw [adv, List.getElem?_eq_none h]
theorem adv_skip (cost : X → Int) {s : DS X} {k : Nat} {l : LN X} (hl : s.lines[k]? = some l) (h : l.things = []) : adv cost (s.lines.length - k) s k = adv cost (s.lines.length - (k + 1)) s (k + 1) := by
  have hi : k < s.lines.length := (List.getElem?_eq_some_iff.1 hl).1
  rw [show s.lines.length - k = (s.lines.length - (k + 1)) + 1 by omega, adv, hl]
  simp only [h, if_pos]
theorem adv_visit (cost : X → Int) {s : DS X} {k : Nat} {l : LN X} (hl : s.lines[k]? = some l) (h : l.things ≠ []) : adv cost (s.lines.length - k) s k = goOn cost (visit s k l) k := by
  have hi : k < s.lines.length := (List.getElem?_eq_some_iff.1 hl).1
  rw [show s.lines.length - k = (s.lines.length - (k + 1)) + 1 by omega, adv, hl]
  simp only [if_neg h, goOn, visit_len]
theorem goOn_some (cost : X → Int) {s : DS X} {k : Nat} {l : LN X} {x : X} {t : List X} (hl : s.lines[k]? = some l) (hx : l.things = x :: t) (hc : cost x ≤ l.df) : goOn cost s k = ⟨s.put k (l.served cost x t), k, true, some (k, x), false⟩ := by
  simp only [goOn, vstep, hl, hx, if_pos hc]
theorem goOn_none (cost : X → Int) {s : DS X} {k : Nat} {l : LN X} (hl : s.lines[k]? = some l) (hx : ∀ x t, l.things = x :: t → l.df < cost x) : goOn cost s k = adv cost (s.lines.length - (k + 1)) s (k + 1) := by
  unfold goOn vstep
  cases ht : l.things with
  | nil => simp only [hl, ht]
  | cons x t =>
    have h1 : ¬ cost x ≤ l.df := by have := hx x t ht; omega
    simp only [hl, ht, if_neg h1]
end
end Go.Proofs.Ytanfhmebjgmdpaa
