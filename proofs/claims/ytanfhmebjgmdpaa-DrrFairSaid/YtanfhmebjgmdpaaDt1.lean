/-
  DrrTime, the plain law: a book of what was added and served, and a round.
-/
import Derived.Test.YtanfhmebjgmdpaaDr9
import Derived.Test.YtanfhmebjgmdpaaDr4j
namespace Go.Proofs.Ytanfhmebjgmdpaa.Qj
open Go.RowKit
set_option linter.unusedVariables false
/-- A book's numbers. -/
structure BK where
  added : List Nat
  served : List Nat
  until_ : List (List Int)
  rounds : Int
/-- One queue: what is added, served; the costs of this round; the rounds until which; its line. -/
structure Lin (quantum rounds : Int) (touched cur : Prop) (ad sv : Nat) (cc : Int) (un : List Int) (l : LN X) : Prop where
  len : l.things.length + sv = ad
  num : ∀ j x, l.things[j]? = some x → x.1.1 = ((sv + j : Nat) : Int) ∧ x.1.2 = x.2
  df0 : 0 ≤ l.df
  emp : l.things = [] → l.df = 0
  ul : un.length = ad
  ph : (¬ touched ∧ cc = (if l.things = [] then -1 else 0) ∧ l.df ≤ 7 ∧ ∀ j : Nat, j < l.things.length → ∃ u, un[sv + j]? = some u ∧ rounds + j + 1 ≤ u) ∨
    (touched ∧ cc = -1 ∧ l.things = []) ∨
    (touched ∧ 1 ≤ cc ∧ cc + l.df ≤ quantum + 7 ∧ (cur ∨ l.df ≤ 7) ∧ ∀ j : Nat, j < l.things.length → ∃ u, un[sv + j]? = some u ∧ rounds + j + 2 ≤ u)
def touched (r : RSt X) (q : Nat) : Prop := r.fin = true ∨ q < r.k ∨ (q = r.k ∧ r.vis = true)
def cur (r : RSt X) (q : Nat) : Prop := q = r.k ∧ r.vis = true ∧ r.fin = false
def pn (r : RSt X) (q : Nat) : Nat := match r.pend with | some (k, _) => if k = q then 1 else 0 | none => 0
def pc (r : RSt X) (q : Nat) : Int := match r.pend with | some (k, x) => if k = q then x.2 else 0 | none => 0
/-- A round under way. -/
structure PInv (n : Nat) (quantum : Int) (b : BK) (costs : List Int) (last : Int) (r : RSt X) : Prop where
  ll : r.s.lines.length = n
  la : b.added.length = n
  ls : b.served.length = n
  lu : b.until_.length = n
  lc : costs.length = n
  qu : (r.s.quantum : Int) = quantum
  q8 : 8 ≤ quantum
  lin : ∀ (q : Nat) (l : LN X) (ad sv : Nat) (cc : Int) (un : List Int), r.s.lines[q]? = some l → b.added[q]? = some ad → b.served[q]? = some sv → costs[q]? = some cc → b.until_[q]? = some un → Lin quantum b.rounds (touched r q) (cur r q) ad (sv + pn r q) (cc + pc r q) un l
  pend : ∀ q x, r.pend = some (q, x) → q = r.k ∧ r.vis = true ∧ r.fin = false ∧ 1 ≤ x.2 ∧ ∃ sv ad un cc u, b.served[q]? = some sv ∧ b.added[q]? = some ad ∧ b.until_[q]? = some un ∧ costs[q]? = some cc ∧ x.1.1 = (sv : Int) ∧ x.1.2 = x.2 ∧ sv < ad ∧ un[sv]? = some u ∧ b.rounds < u ∧ 0 ≤ cc
  last0 : 0 ≤ last
  lastk : r.vis = true → last ≤ r.k
  visk : r.vis = true → r.k < n
  las : r.vis = false → r.fin = false → last = 0 ∧ r.k = 0
/-- Between two rounds. -/
structure Btw (n : Nat) (quantum : Int) (b : BK) (s : DS X) : Prop where
  ll : s.lines.length = n
  la : b.added.length = n
  ls : b.served.length = n
  lu : b.until_.length = n
  qu : (s.quantum : Int) = quantum
  lin : ∀ (q : Nat) (l : LN X) (ad sv : Nat) (un : List Int), s.lines[q]? = some l → b.added[q]? = some ad → b.served[q]? = some sv → b.until_[q]? = some un →
    l.things.length + sv = ad ∧ (∀ j x, l.things[j]? = some x → x.1.1 = ((sv + j : Nat) : Int) ∧ x.1.2 = x.2) ∧ 0 ≤ l.df ∧ l.df ≤ 7 ∧ (l.things = [] → l.df = 0) ∧ un.length = ad ∧ ∀ j : Nat, j < l.things.length → ∃ u, un[sv + j]? = some u ∧ b.rounds + j + 1 ≤ u
/-- A line that is untouched is served. -/
theorem Lin.first {quantum rounds : Int} {t c t' c' : Prop} {ad sv : Nat} {cc : Int} {un : List Int} {l : LN X} (h : Lin quantum rounds t c ad sv cc un l) (hn : ¬ t) {x : X} {tl : List X} (hx : l.things = x :: tl) (hc : 1 ≤ x.2 ∧ x.2 ≤ 8) (ht' : t') (hc' : c') (hq : 8 ≤ quantum) :
    Lin quantum rounds t' c' ad (sv + 1) (cc + x.2) un { l with things := tl, df := if tl = [] then 0 else l.df + quantum - x.2 } ∧ cc = 0 ∧ x.1.1 = (sv : Int) ∧ x.1.2 = x.2 ∧ sv < ad ∧ ∃ u, un[sv]? = some u ∧ rounds < u := by
  have hlen := h.len
  rw [hx] at hlen
  simp only [List.length_cons] at hlen
  have h0 := h.num 0 x (by rw [hx]; rfl)
  rcases h.ph with ⟨_, h1, h2, h3⟩ | ⟨h1, _⟩ | ⟨h1, _⟩
  · rw [if_neg (by rw [hx]; simp)] at h1
    have hd := h.df0
    obtain ⟨u0, hu0, hr0⟩ := h3 0 (by rw [hx]; simp)
    refine ⟨⟨by show tl.length + (sv + 1) = ad; omega, fun j y hj => ?_, ?_, fun e => ?_, h.ul, .inr (.inr ⟨ht', by omega, ?_, .inl hc', fun j hj => ?_⟩)⟩, h1, by simpa using h0.1, h0.2, by omega, u0, by simpa using hu0, by omega⟩
    · have hj' : tl[j]? = some y := hj
      obtain ⟨e1, e2⟩ := h.num (j + 1) y (by rw [hx]; simpa using hj')
      exact ⟨by rw [e1]; congr 1; omega, e2⟩
    · show 0 ≤ (if tl = [] then 0 else l.df + quantum - x.2); split <;> omega
    · show (if tl = [] then 0 else l.df + quantum - x.2) = 0; rw [if_pos e]
    · show cc + x.2 + (if tl = [] then 0 else l.df + quantum - x.2) ≤ _; split <;> omega
    · have hj' : j < tl.length := hj
      obtain ⟨u, hu, hr⟩ := h3 (j + 1) (by rw [hx]; simp; omega)
      refine ⟨u, ?_, by omega⟩
      rw [show sv + 1 + j = sv + (j + 1) by omega]; exact hu
  · exact absurd h1 hn
  · exact absurd h1 hn
/-- A line in turn is served once more. -/
theorem Lin.more {quantum rounds : Int} {t c t' c' : Prop} {ad sv : Nat} {cc : Int} {un : List Int} {l : LN X} (h : Lin quantum rounds t c ad sv cc un l) (hc1 : c) (ht : t) {x : X} {tl : List X} (hx : l.things = x :: tl) (hc : 1 ≤ x.2 ∧ x.2 ≤ l.df) (ht' : t') (hc' : c') :
    Lin quantum rounds t' c' ad (sv + 1) (cc + x.2) un { l with things := tl, df := if tl = [] then 0 else l.df - x.2 } ∧ 1 ≤ cc ∧ x.1.1 = (sv : Int) ∧ x.1.2 = x.2 ∧ sv < ad ∧ ∃ u, un[sv]? = some u ∧ rounds < u := by
  have hlen := h.len
  rw [hx] at hlen
  simp only [List.length_cons] at hlen
  have h0 := h.num 0 x (by rw [hx]; rfl)
  rcases h.ph with ⟨h1, _⟩ | ⟨_, h1, h2⟩ | ⟨_, h1, h2, h4, h3⟩
  · exact absurd ht h1
  · rw [hx] at h2; cases h2
  · have hd := h.df0
    obtain ⟨u0, hu0, hr0⟩ := h3 0 (by rw [hx]; simp)
    refine ⟨⟨by show tl.length + (sv + 1) = ad; omega, fun j y hj => ?_, ?_, fun e => ?_, h.ul, .inr (.inr ⟨ht', by omega, ?_, .inl hc', fun j hj => ?_⟩)⟩, h1, by simpa using h0.1, h0.2, by omega, u0, by simpa using hu0, by omega⟩
    · have hj' : tl[j]? = some y := hj
      obtain ⟨e1, e2⟩ := h.num (j + 1) y (by rw [hx]; simpa using hj')
      exact ⟨by rw [e1]; congr 1; omega, e2⟩
    · show 0 ≤ (if tl = [] then 0 else l.df - x.2); split <;> omega
    · show (if tl = [] then 0 else l.df - x.2) = 0; rw [if_pos e]
    · show cc + x.2 + (if tl = [] then 0 else l.df - x.2) ≤ _; split <;> omega
    · have hj' : j < tl.length := hj
      obtain ⟨u, hu, hr⟩ := h3 (j + 1) (by rw [hx]; simp; omega)
      refine ⟨u, ?_, by omega⟩
      rw [show sv + 1 + j = sv + (j + 1) by omega]; exact hu
/-- A line is left: the next ones' turn. -/
theorem Lin.left {quantum rounds : Int} {t c t' c' : Prop} {ad sv : Nat} {cc : Int} {un : List Int} {l : LN X} (h : Lin quantum rounds t c ad sv cc un l) (ht' : t → t') (hn : ¬ t → t' → l.things = []) (hc : c → c' ∨ l.df ≤ 7) : Lin quantum rounds t' c' ad sv cc un l := by
  refine ⟨h.len, h.num, h.df0, h.emp, h.ul, ?_⟩
  rcases h.ph with ⟨h1, h2, h3, h4⟩ | ⟨h1, h2, h3⟩ | ⟨h1, h2, h3, h4, h5⟩
  · by_cases htt : t'
    · have he := hn h1 htt
      rw [if_pos he] at h2
      exact .inr (.inl ⟨htt, h2, he⟩)
    · exact .inl ⟨htt, h2, h3, h4⟩
  · exact .inr (.inl ⟨ht' h1, h2, h3⟩)
  · exact .inr (.inr ⟨ht' h1, h2, h3, h4.elim hc .inr, h5⟩)
end Go.Proofs.Ytanfhmebjgmdpaa.Qj
