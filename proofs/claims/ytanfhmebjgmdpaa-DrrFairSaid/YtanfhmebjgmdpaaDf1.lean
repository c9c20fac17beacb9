/-
  DrrFair, the plain law.
-/
import Derived.Test.YtanfhmebjgmdpaaDt7
namespace Go.Proofs.Ytanfhmebjgmdpaa.Qj
open Go.RowKit
set_option linter.unusedVariables false
/-- The first line that is not yet visited. -/
def nxt (r : RSt X) : Nat := if r.vis = true then r.k + 1 else r.k
/-- What a turn of the iterator comes to. -/
theorem go_cases (r : RSt X) {D : Int} (hok : r.s.Ok xc D) (hk : r.vis = true → r.k < r.s.lines.length) :
    (∃ l x t, r.vis = true ∧ r.s.lines[r.k]? = some l ∧ l.things = x :: t ∧ x.2 ≤ l.df ∧ r.go xc = ⟨r.s.put r.k (l.served xc x t), r.k, true, some (r.k, x), false⟩) ∨
    ((r.vis = true → ∀ l x t, r.s.lines[r.k]? = some l → l.things = x :: t → l.df < x.2) ∧
      ((∃ k' l x t, nxt r ≤ k' ∧ r.s.lines[k']? = some l ∧ l.things = x :: t ∧ (∀ j l', nxt r ≤ j → j < k' → r.s.lines[j]? = some l' → l'.things = []) ∧
        ∃ s1 : DS X, s1.lines = r.s.lines ∧ s1.quantum = r.s.quantum ∧ r.go xc = ⟨s1.put k' { l with things := t, df := if t = [] then 0 else l.df + r.s.quantum - x.2 }, k', true, some (k', x), false⟩) ∨
       ((∀ j l', nxt r ≤ j → r.s.lines[j]? = some l' → l'.things = []) ∧ ∃ (s1 : DS X) (k' : Nat), s1.lines = r.s.lines ∧ s1.quantum = r.s.quantum ∧ r.go xc = ⟨s1, k', false, none, true⟩))) := by
  have hco : ∀ l ∈ r.s.lines, ∀ x ∈ l.things, 1 ≤ xc x ∧ xc x ≤ 8 := hok.co
  have hdf : ∀ l ∈ r.s.lines, 0 ≤ l.df := fun l hl => (hok.df l hl).1
  unfold RSt.go nxt
  by_cases hv : r.vis = true
  · rw [if_pos hv, if_pos hv]
    have hkn := hk hv
    obtain ⟨l, hl⟩ : ∃ l, r.s.lines[r.k]? = some l := ⟨_, List.getElem?_eq_getElem hkn⟩
    rcases goOn_cases xc r.s r.k l hl with ⟨x, t, hx, hc, hg⟩ | ⟨hx, hg⟩
    · exact .inl ⟨l, x, t, hv, hl, hx, hc, hg⟩
    · refine .inr ⟨fun _ l' x t hl' ht => by rw [hl] at hl'; cases hl'; exact hx x t ht, ?_⟩
      rw [hg]
      rcases adv_cases xc (r.s.lines.length - (r.k + 1)) r.s (r.k + 1) rfl hok.q1 hco hdf with ⟨k', l', x, t, h1, h2, h3, h4, h5⟩ | ⟨h1, k', h2⟩
      · exact .inl ⟨k', l', x, t, h1, h2, h3, h4, r.s, rfl, rfl, h5⟩
      · exact .inr ⟨h1, { r.s with busy := false }, k', rfl, rfl, h2⟩
  · rw [if_neg hv, if_neg hv]
    refine .inr ⟨fun e => absurd e hv, ?_⟩
    rcases adv_cases xc (r.s.lines.length - r.k) { r.s with busy := true } r.k rfl hok.q1 hco hdf with ⟨k', l', x, t, h1, h2, h3, h4, h5⟩ | ⟨h1, k', h2⟩
    · exact .inl ⟨k', l', x, t, h1, h2, h3, h4, { r.s with busy := true }, rfl, rfl, h5⟩
    · exact .inr ⟨h1, { r.s with busy := false }, k', rfl, rfl, h2⟩
structure FI (n : Nat) (quantum : Int) (r : RSt X) : Prop where
  ll : r.s.lines.length = n
  qu : (r.s.quantum : Int) = quantum
  visk : r.vis = true → r.k < n
  num : ∀ (q : Nat) (l : LN X) (x : X), r.s.lines[q]? = some l → x ∈ l.things → x.1.2 = x.2
  df0 : ∀ (q : Nat) (l : LN X), r.s.lines[q]? = some l → 0 ≤ l.df
  dfc : ∀ (q : Nat) (l : LN X), r.s.lines[q]? = some l → l.df ≤ quantum + 7
  df7 : ∀ (q : Nat) (l : LN X), r.s.lines[q]? = some l → ¬ (q = r.k ∧ r.vis = true) → l.df ≤ 7
  emp : ∀ (q : Nat) (l : LN X), r.s.lines[q]? = some l → l.things = [] → l.df = 0
  pend : ∀ q x, r.pend = some (q, x) → q = r.k ∧ r.vis = true ∧ r.fin = false ∧ x.1.2 = x.2 ∧ 1 ≤ x.2 ∧ x.2 ≤ 8
  visf : r.fin = true → r.vis = false
/-- What queue a was served so far, against K. -/
def Due (K d0 quantum one : Int) (r : RSt X) (a : Nat) : Prop :=
  ∀ l, r.s.lines[a]? = some l → l.things ≠ [] → (touched r a → one + pc r a + l.df = K + d0 + quantum) ∧ (¬ touched r a → one + pc r a + l.df = K + d0)
def NE (s : DS X) (a : Nat) : Prop := ∃ l, s.lines[a]? = some l ∧ l.things ≠ []
def Bd (m : Nat) (one : Int) (r : RSt X) (a : Nat) : Prop := 0 ≤ one ∧ ∀ l, r.s.lines[a]? = some l → one + pc r a + 8 * (l.things.length : Int) ≤ 8 * m
section
variable {n : Nat} {quantum : Int} {r : RSt X} {D K d0 one : Int} {a m : Nat}
theorem pc0 (hp : r.pend = none) (q : Nat) : pc r q = 0 := (pn_none hp).2
theorem FI.turn (h : FI n quantum r) (hp : r.pend = none) (hf : r.fin = false) (hok : r.s.Ok xc D) (hq : 8 ≤ quantum) :
    FI n quantum (r.go xc) ∧ (Due K d0 quantum one r a → NE r.s a → Due K d0 quantum one (r.go xc) a) ∧ (Bd m one r a → Bd m one (r.go xc) a) := by
  have hco := hok.co
  rcases go_cases r hok (fun e => by rw [h.ll]; exact h.visk e) with ⟨l, x, t, hv, hl, hx, hc, hg⟩ | ⟨hlt, ⟨k', l, x, t, h1, hl, hx, hemp, s1, hs1, hq1, hg⟩ | ⟨hemp, s1, k', hs1, hq1, hg⟩⟩
  · rw [hg]
    have hkn := h.visk hv
    have hlen : r.k < r.s.lines.length := by rw [h.ll]; exact hkn
    have hcx := hco l (List.mem_of_getElem? hl) x (by rw [hx]; simp)
    have hcx' : 1 ≤ x.2 ∧ x.2 ≤ 8 := hcx
    have hd0 := h.df0 _ l hl
    have hdc := h.dfc _ l hl
    have hg' : ∀ (q : Nat) (l' : LN X), (r.s.lines.set r.k (l.served xc x t))[q]? = some l' → (q = r.k ∧ l' = l.served xc x t) ∨ (q ≠ r.k ∧ r.s.lines[q]? = some l') := fun q l' e => by
      by_cases hqk : q = r.k
      · subst hqk
        rw [List.getElem?_set_self hlen] at e
        cases e; exact .inl ⟨rfl, rfl⟩
      · rw [List.getElem?_set_ne (fun e => hqk e.symm)] at e
        exact .inr ⟨hqk, e⟩
    have hsdf : (l.served xc x t).df = if t = [] then 0 else l.df - x.2 := rfl
    have p1 : ∀ q, q = r.k → pc (⟨r.s.put r.k (l.served xc x t), r.k, true, some (r.k, x), false⟩ : RSt X) q = x.2 := fun q e => ((pn_some rfl q).1 e.symm).2
    have p2 : ∀ q, q ≠ r.k → pc (⟨r.s.put r.k (l.served xc x t), r.k, true, some (r.k, x), false⟩ : RSt X) q = 0 := fun q e => ((pn_some rfl q).2 (fun e' => e e'.symm)).2
    refine ⟨⟨by show (r.s.put r.k _).lines.length = n; rw [DS.put_len]; exact h.ll, h.qu, fun _ => hkn, fun q l' y e hy => ?_, fun q l' e => ?_, fun q l' e => ?_, fun q l' e hne => ?_, fun q l' e he => ?_, fun q y e => ?_, fun e => by cases e⟩, fun hD ⟨la, hla, hlne⟩ l' e hne => ?_, fun hB => ⟨hB.1, fun l' e => ?_⟩⟩
    · rcases hg' q l' e with ⟨rfl, rfl⟩ | ⟨_, e2⟩
      · exact h.num r.k l y hl (by rw [hx]; exact List.mem_cons_of_mem _ hy)
      · exact h.num q l' y e2 hy
    · rcases hg' q l' e with ⟨rfl, rfl⟩ | ⟨_, e2⟩
      · rw [hsdf]; split <;> omega
      · exact h.df0 q l' e2
    · rcases hg' q l' e with ⟨rfl, rfl⟩ | ⟨_, e2⟩
      · rw [hsdf]; split <;> omega
      · exact h.dfc q l' e2
    · rcases hg' q l' e with ⟨rfl, rfl⟩ | ⟨e1, e2⟩
      · exact absurd ⟨rfl, rfl⟩ hne
      · exact h.df7 q l' e2 (fun e3 => e1 e3.1)
    · rcases hg' q l' e with ⟨rfl, rfl⟩ | ⟨e1, e2⟩
      · have : t = [] := he
        rw [hsdf, if_pos this]
      · exact h.emp q l' e2 he
    · have e' : some (r.k, x) = some (q, y) := e
      cases e'
      exact ⟨rfl, rfl, rfl, h.num r.k l x hl (by rw [hx]; simp), hcx'⟩
    · have ht : ∀ q, touched (⟨r.s.put r.k (l.served xc x t), r.k, true, some (r.k, x), false⟩ : RSt X) q ↔ touched r q := fun q => by
        unfold touched; simp [hf, hv]
      rcases hg' a l' e with ⟨rfl, rfl⟩ | ⟨e1, e2⟩
      · have hne' : t ≠ [] := hne
        obtain ⟨g1, g2⟩ := hD l hl (by rw [hx]; simp)
        rw [pc0 hp] at g1 g2
        rw [p1 _ rfl, hsdf, if_neg hne', ht]
        exact ⟨fun e => by have := g1 e; omega, fun e => by have := g2 e; omega⟩
      · obtain ⟨g1, g2⟩ := hD l' e2 hne
        rw [pc0 hp] at g1 g2
        rw [p2 _ e1, ht]
        exact ⟨g1, g2⟩
    · rcases hg' a l' e with ⟨rfl, rfl⟩ | ⟨e1, e2⟩
      · have := hB.2 l hl
        rw [pc0 hp, hx, List.length_cons] at this
        rw [p1 _ rfl]
        show one + x.2 + 8 * (t.length : Int) ≤ _
        push_cast at this
        omega
      · have := hB.2 l' e2
        rw [pc0 hp] at this
        rw [p2 _ e1]; exact this
  · rw [hg]
    have hkn : k' < n := by rw [← h.ll]; exact (List.getElem?_eq_some_iff.1 hl).1
    have hlen : k' < r.s.lines.length := by rw [h.ll]; exact hkn
    have hcx : 1 ≤ x.2 ∧ x.2 ≤ 8 := hco l (List.mem_of_getElem? hl) x (by rw [hx]; simp)
    have hd0 := h.df0 _ l hl
    have hnk : ¬ (k' = r.k ∧ r.vis = true) := fun e => by
      unfold nxt at h1; rw [if_pos e.2] at h1; omega
    have hd7 := h.df7 _ l hl hnk
    have hqu := h.qu
    have hg' : ∀ (q : Nat) (l' : LN X), (s1.lines.set k' { l with things := t, df := if t = [] then 0 else l.df + r.s.quantum - x.2 })[q]? = some l' → (q = k' ∧ l' = { l with things := t, df := if t = [] then 0 else l.df + r.s.quantum - x.2 }) ∨ (q ≠ k' ∧ r.s.lines[q]? = some l') := fun q l' e => by
      rw [hs1] at e
      by_cases hqk : q = k'
      · subst hqk
        rw [List.getElem?_set_self hlen] at e
        cases e; exact .inl ⟨rfl, rfl⟩
      · rw [List.getElem?_set_ne (fun e => hqk e.symm)] at e
        exact .inr ⟨hqk, e⟩
    have p1 : ∀ q, q = k' → pc (⟨s1.put k' { l with things := t, df := if t = [] then 0 else l.df + r.s.quantum - x.2 }, k', true, some (k', x), false⟩ : RSt X) q = x.2 := fun q e => ((pn_some rfl q).1 e.symm).2
    have p2 : ∀ q, q ≠ k' → pc (⟨s1.put k' { l with things := t, df := if t = [] then 0 else l.df + r.s.quantum - x.2 }, k', true, some (k', x), false⟩ : RSt X) q = 0 := fun q e => ((pn_some rfl q).2 (fun e' => e e'.symm)).2
    have h7 : ∀ (q : Nat) (l' : LN X), r.s.lines[q]? = some l' → l'.df ≤ 7 := fun q l' e => by
      by_cases hc : q = r.k ∧ r.vis = true
      · obtain ⟨rfl, hv⟩ := hc
        rcases ht : l'.things with _ | ⟨y, t'⟩
        · have := h.emp _ l' e ht; omega
        · have h2 := hlt hv l' y t' e ht
          have h3 : 1 ≤ y.2 ∧ y.2 ≤ 8 := hco l' (List.mem_of_getElem? e) y (by rw [ht]; simp)
          omega
      · exact h.df7 q l' e hc
    refine ⟨⟨by show (s1.put k' _).lines.length = n; rw [DS.put_len, hs1]; exact h.ll, by show (s1.quantum : Int) = quantum; rw [hq1]; exact h.qu, fun _ => hkn, fun q l' y e hy => ?_, fun q l' e => ?_, fun q l' e => ?_, fun q l' e hne => ?_, fun q l' e he => ?_, fun q y e => ?_, fun e => by cases e⟩, fun hD ⟨la, hla, hlne⟩ l' e hne => ?_, fun hB => ⟨hB.1, fun l' e => ?_⟩⟩
    · rcases hg' q l' e with ⟨rfl, rfl⟩ | ⟨_, e2⟩
      · exact h.num q l y hl (by rw [hx]; exact List.mem_cons_of_mem _ hy)
      · exact h.num q l' y e2 hy
    · rcases hg' q l' e with ⟨rfl, rfl⟩ | ⟨_, e2⟩
      · show 0 ≤ if t = [] then 0 else l.df + (r.s.quantum : Int) - x.2
        split <;> omega
      · exact h.df0 q l' e2
    · rcases hg' q l' e with ⟨rfl, rfl⟩ | ⟨_, e2⟩
      · show (if t = [] then 0 else l.df + (r.s.quantum : Int) - x.2) ≤ _
        split <;> omega
      · exact h.dfc q l' e2
    · rcases hg' q l' e with ⟨rfl, rfl⟩ | ⟨e1, e2⟩
      · exact absurd ⟨rfl, rfl⟩ hne
      · exact h7 q l' e2
    · rcases hg' q l' e with ⟨rfl, rfl⟩ | ⟨e1, e2⟩
      · have : t = [] := he
        show (if t = [] then 0 else l.df + (r.s.quantum : Int) - x.2) = 0
        rw [if_pos this]
      · exact h.emp q l' e2 he
    · have e' : some (k', x) = some (q, y) := e
      cases e'
      exact ⟨rfl, rfl, rfl, h.num _ l x hl (by rw [hx]; simp), hcx⟩
    · rcases hg' a l' e with ⟨rfl, rfl⟩ | ⟨e1, e2⟩
      · have hne' : t ≠ [] := hne
        obtain ⟨g1, g2⟩ := hD l hl (by rw [hx]; simp)
        rw [pc0 hp] at g1 g2
        have hut : ¬ touched r a := fun e => by
          unfold nxt at h1
          rcases e with e | e | ⟨e, e2⟩
          · rw [hf] at e; cases e
          · split at h1 <;> omega
          · exact hnk ⟨e, e2⟩
        rw [p1 _ rfl]
        refine ⟨fun _ => ?_, fun e => absurd (.inr (.inr ⟨rfl, rfl⟩)) e⟩
        show one + x.2 + (if t = [] then 0 else l.df + (r.s.quantum : Int) - x.2) = _
        rw [if_neg hne']
        have := g2 hut; omega
      · obtain ⟨g1, g2⟩ := hD l' e2 hne
        rw [pc0 hp] at g1 g2
        rw [p2 _ e1]
        refine ⟨fun e3 => ?_, fun e3 => ?_⟩
        · refine g1 ?_
          have h9 : ¬ nxt r ≤ a := fun hle => by
            rcases e3 with e3 | e3 | ⟨e3, _⟩
            · cases e3
            · exact hne (hemp a l' hle e3 e2)
            · exact e1 e3
          unfold nxt at h9
          by_cases hv : r.vis = true
          · rw [if_pos hv] at h9
            rcases Nat.lt_or_ge a r.k with h10 | h10
            · exact .inr (.inl h10)
            · exact .inr (.inr ⟨by omega, hv⟩)
          · rw [if_neg hv] at h9
            exact .inr (.inl (by omega))
        · refine g2 fun e4 => e3 ?_
          rcases e4 with e4 | e4 | ⟨e4, e5⟩
          · rw [hf] at e4; cases e4
          · refine .inr (.inl ?_)
            show a < k'
            unfold nxt at h1; split at h1 <;> omega
          · refine .inr (.inl ?_)
            show a < k'
            unfold nxt at h1; rw [if_pos e5] at h1; omega
    · rcases hg' a l' e with ⟨rfl, rfl⟩ | ⟨e1, e2⟩
      · have := hB.2 l hl
        rw [pc0 hp, hx, List.length_cons] at this
        rw [p1 _ rfl]
        show one + x.2 + 8 * (t.length : Int) ≤ _
        push_cast at this
        omega
      · have := hB.2 l' e2
        rw [pc0 hp] at this
        rw [p2 _ e1]; exact this
  · rw [hg]
    have h7 : ∀ (q : Nat) (l' : LN X), r.s.lines[q]? = some l' → l'.df ≤ 7 := fun q l' e => by
      by_cases hc : q = r.k ∧ r.vis = true
      · obtain ⟨rfl, hv⟩ := hc
        rcases ht : l'.things with _ | ⟨y, t'⟩
        · have := h.emp _ l' e ht; omega
        · have h2 := hlt hv l' y t' e ht
          have h3 : 1 ≤ y.2 ∧ y.2 ≤ 8 := hco l' (List.mem_of_getElem? e) y (by rw [ht]; simp)
          omega
      · exact h.df7 q l' e hc
    have hz : ∀ q, pc (⟨s1, k', false, none, true⟩ : RSt X) q = 0 := fun q => pc0 rfl q
    refine ⟨⟨by show s1.lines.length = n; rw [hs1]; exact h.ll, by show (s1.quantum : Int) = quantum; rw [hq1]; exact h.qu, (fun e => by cases e), fun q l' y e hy => ?_, fun q l' e => ?_, fun q l' e => ?_, fun q l' e hne => ?_, fun q l' e he => ?_, (fun q y e => by cases e), fun e => rfl⟩, fun hD _ l' e hne => ?_, fun hB => ⟨hB.1, fun l' e => ?_⟩⟩
    · exact h.num q l' y (hs1 ▸ e) hy
    · exact h.df0 q l' (hs1 ▸ e)
    · exact h.dfc q l' (hs1 ▸ e)
    · exact h7 q l' (hs1 ▸ e)
    · exact h.emp q l' (hs1 ▸ e) he
    · have e2 : r.s.lines[a]? = some l' := hs1 ▸ e
      obtain ⟨g1, g2⟩ := hD l' e2 hne
      rw [pc0 hp] at g1 g2
      rw [hz]
      refine ⟨fun _ => g1 ?_, fun e3 => absurd (.inl rfl) e3⟩
      have h9 : ¬ nxt r ≤ a := fun hle => hne (hemp a l' hle e2)
      unfold nxt at h9
      by_cases hv : r.vis = true
      · rw [if_pos hv] at h9
        rcases Nat.lt_or_ge a r.k with h10 | h10
        · exact .inr (.inl h10)
        · exact .inr (.inr ⟨by omega, hv⟩)
      · rw [if_neg hv] at h9
        exact .inr (.inl (by omega))
    · have := hB.2 l' (hs1 ▸ e)
      rw [pc0 hp] at this
      rw [hz]; exact this
/-- A service is counted. -/
theorem FI.book (h : FI n quantum r) {q : Nat} {x : X} (hp : r.pend = some (q, x)) : FI n quantum { r with pend := none } ∧ (Due K d0 quantum one r a → Due K d0 quantum (one + if q = a then x.1.2 else 0) { r with pend := none } a) ∧ (Bd m one r a → Bd m (one + if q = a then x.1.2 else 0) { r with pend := none } a) := by
  obtain ⟨e1, e2, e3, e4, e5, e6⟩ := h.pend q x hp
  have hpc : pc r a = if q = a then x.1.2 else 0 := by
    by_cases hq : q = a
    · rw [if_pos hq, ((pn_some hp a).1 hq).2, e4]
    · rw [if_neg hq, ((pn_some hp a).2 hq).2]
  have hz : pc { r with pend := none } a = 0 := pc0 rfl a
  refine ⟨⟨h.ll, h.qu, h.visk, h.num, h.df0, h.dfc, h.df7, h.emp, (fun q y e => by cases e), h.visf⟩, fun hD l hl hne => ?_, fun hB => ⟨?_, fun l hl => ?_⟩⟩
  · obtain ⟨g1, g2⟩ := hD l hl hne
    rw [hpc] at g1 g2
    rw [hz]
    exact ⟨fun e => by have := g1 e; omega, fun e => by have := g2 e; omega⟩
  · have := hB.1
    split <;> omega
  · have := hB.2 l hl
    rw [hpc] at this
    rw [hz]; omega
/-- How far apart two queues may be. -/
theorem FI.gap (h : FI n quantum r) (hp : r.pend = none) (hq : 8 ≤ quantum) {da db two : Int} {b : Nat} (ha : Due K da quantum one r a) (hb : Due K db quantum two r b) (hna : NE r.s a) (hnb : NE r.s b) (h1 : 0 ≤ da ∧ da ≤ 7) (h2 : 0 ≤ db ∧ db ≤ 7) :
    one - two ≤ quantum + 16 ∧ two - one ≤ quantum + 16 ∧ (r.fin = true → one - two < 16 ∧ two - one < 16) := by
  obtain ⟨la, hla, ea⟩ := hna
  obtain ⟨lb, hlb, eb⟩ := hnb
  obtain ⟨a1, a2⟩ := ha la hla ea
  obtain ⟨b1, b2⟩ := hb lb hlb eb
  rw [pc0 hp] at a1 a2 b1 b2
  have c1 := h.df0 a la hla
  have c2 := h.dfc a la hla
  have c3 := h.df7 a la hla
  have d1 := h.df0 b lb hlb
  have d2 := h.dfc b lb hlb
  have d3 := h.df7 b lb hlb
  have ua : ¬ touched r a → la.df ≤ 7 := fun e => c3 fun e2 => e (.inr (.inr e2))
  have ub : ¬ touched r b → lb.df ≤ 7 := fun e => d3 fun e2 => e (.inr (.inr e2))
  by_cases ta : touched r a <;> by_cases tb : touched r b
  · have := a1 ta; have := b1 tb
    refine ⟨by omega, by omega, fun hf => ?_⟩
    have hv := h.visf hf
    have := c3 (fun e => by rw [hv] at e; cases e.2)
    have := d3 (fun e => by rw [hv] at e; cases e.2)
    omega
  · have := a1 ta; have := b2 tb; have := ub tb
    exact ⟨by omega, by omega, fun hf => absurd (.inl hf) tb⟩
  · have := a2 ta; have := b1 tb; have := ua ta
    exact ⟨by omega, by omega, fun hf => absurd (.inl hf) ta⟩
  · have := a2 ta; have := b2 tb
    exact ⟨by omega, by omega, fun hf => absurd (.inl hf) ta⟩
end
/-- Between two rounds. -/
structure FB (n : Nat) (quantum : Int) (s : DS X) : Prop where
  ll : s.lines.length = n
  qu : (s.quantum : Int) = quantum
  num : ∀ (q : Nat) (l : LN X) (x : X), s.lines[q]? = some l → x ∈ l.things → x.1.2 = x.2
  df : ∀ (q : Nat) (l : LN X), s.lines[q]? = some l → 0 ≤ l.df ∧ l.df ≤ 7
  emp : ∀ (q : Nat) (l : LN X), s.lines[q]? = some l → l.things = [] → l.df = 0
def DueB (K d0 one : Int) (s : DS X) (a : Nat) : Prop := ∀ l, s.lines[a]? = some l → l.things ≠ [] → one + l.df = K + d0
def BdB (m : Nat) (one : Int) (s : DS X) (a : Nat) : Prop := 0 ≤ one ∧ ∀ l, s.lines[a]? = some l → one + 8 * (l.things.length : Int) ≤ 8 * m
section
variable {n : Nat} {quantum : Int} {s : DS X} {K d0 one : Int} {a m : Nat}
theorem FB.start (h : FB n quantum s) (hq : 8 ≤ quantum) : FI n quantum ⟨s, 0, false, none, false⟩ ∧ (DueB K d0 one s a → Due K d0 quantum one ⟨s, 0, false, none, false⟩ a) ∧ (BdB m one s a → Bd m one ⟨s, 0, false, none, false⟩ a) := by
  have hz : pc (⟨s, 0, false, none, false⟩ : RSt X) a = 0 := pc0 rfl a
  refine ⟨⟨h.ll, h.qu, (fun e => by cases e), h.num, fun q l e => (h.df q l e).1, fun q l e => by have := (h.df q l e).2; omega, fun q l e _ => (h.df q l e).2, h.emp, (fun q y e => by cases e), fun _ => rfl⟩, fun hD l hl hne => ?_, fun hB => ⟨hB.1, fun l hl => ?_⟩⟩
  · rw [hz]
    refine ⟨fun e => ?_, fun _ => by have := hD l hl hne; omega⟩
    rcases e with e | e | ⟨_, e⟩
    · cases e
    · exact absurd e (Nat.not_lt_zero _)
    · cases e
  · rw [hz]; have := hB.2 l hl; omega
theorem FI.done {r : RSt X} (h : FI n quantum r) (hp : r.pend = none) (hf : r.fin = true) : FB n quantum r.s ∧ (Due K d0 quantum one r a → DueB (K + quantum) d0 one r.s a) ∧ (Bd m one r a → BdB m one r.s a) := by
  have hv := h.visf hf
  refine ⟨⟨h.ll, h.qu, h.num, fun q l e => ⟨h.df0 q l e, h.df7 q l e (fun e2 => by rw [hv] at e2; cases e2.2)⟩, h.emp⟩, fun hD l hl hne => ?_, fun hB => ⟨hB.1, fun l hl => ?_⟩⟩
  · have := (hD l hl hne).1 (.inl hf)
    rw [pc0 hp] at this; omega
  · have := hB.2 l hl
    rw [pc0 hp] at this; omega
/-- A thing is added. -/
theorem FB.add (h : FB n quantum s) {q : Nat} {l : LN X} (hl : s.lines[q]? = some l) (c : Int) (g' : Option Nat) :
    FB n quantum (s.put q { l with things := l.things ++ [(((0 : Int), c), c)], g := g' }) ∧ (DueB K d0 one s a → NE s a → DueB K d0 one (s.put q { l with things := l.things ++ [(((0 : Int), c), c)], g := g' }) a ∧ NE (s.put q { l with things := l.things ++ [(((0 : Int), c), c)], g := g' }) a) ∧
      (BdB m one s a → BdB (m + 1) one (s.put q { l with things := l.things ++ [(((0 : Int), c), c)], g := g' }) a) := by
  have hi : q < s.lines.length := (List.getElem?_eq_some_iff.1 hl).1
  have hg : ∀ (j : Nat) (l' : LN X), (s.put q { l with things := l.things ++ [(((0 : Int), c), c)], g := g' }).lines[j]? = some l' → (j = q ∧ l' = { l with things := l.things ++ [(((0 : Int), c), c)], g := g' }) ∨ (j ≠ q ∧ s.lines[j]? = some l') := fun j l' e => by
    have e' : (s.lines.set q { l with things := l.things ++ [(((0 : Int), c), c)], g := g' })[j]? = some l' := e
    by_cases hj : j = q
    · subst hj
      rw [List.getElem?_set_self hi] at e'
      cases e'; exact .inl ⟨rfl, rfl⟩
    · rw [List.getElem?_set_ne (fun e => hj e.symm)] at e'
      exact .inr ⟨hj, e'⟩
  refine ⟨⟨by rw [DS.put_len]; exact h.ll, h.qu, fun j l' x e hx => ?_, fun j l' e => ?_, fun j l' e he => ?_⟩, fun hD hN => ⟨fun l' e hne => ?_, ?_⟩, fun hB => ⟨hB.1, fun l' e => ?_⟩⟩
  · rcases hg j l' e with ⟨rfl, rfl⟩ | ⟨_, e2⟩
    · rcases List.mem_append.1 hx with hx | hx
      · exact h.num j l x hl hx
      · rw [List.mem_singleton] at hx; subst hx; rfl
    · exact h.num j l' x e2 hx
  · rcases hg j l' e with ⟨rfl, rfl⟩ | ⟨_, e2⟩
    · exact h.df j l hl
    · exact h.df j l' e2
  · rcases hg j l' e with ⟨rfl, rfl⟩ | ⟨_, e2⟩
    · have he' : l.things ++ [(((0 : Int), c), c)] = [] := he
      simp at he'
    · exact h.emp j l' e2 he
  · rcases hg a l' e with ⟨rfl, rfl⟩ | ⟨_, e2⟩
    · obtain ⟨l2, hl2, hn2⟩ := hN
      rw [hl] at hl2; cases hl2
      exact hD l hl hn2
    · exact hD l' e2 hne
  · obtain ⟨l2, hl2, hn2⟩ := hN
    by_cases ha : a = q
    · subst ha
      exact ⟨_, List.getElem?_set_self hi, by simp⟩
    · exact ⟨l2, (List.getElem?_set_ne (fun e => ha e.symm)).trans hl2, hn2⟩
  · rcases hg a l' e with ⟨rfl, rfl⟩ | ⟨_, e2⟩
    · have := hB.2 l hl
      show one + 8 * ((l.things ++ [(((0 : Int), c), c)]).length : Int) ≤ _
      simp; omega
    · have := hB.2 l' e2; push_cast; omega
/-- The count begins anew. -/
theorem FB.from (h : FB n quantum s) (hl : ∃ l, s.lines[a]? = some l) : (∃ d0, 0 ≤ d0 ∧ d0 ≤ 7 ∧ DueB 0 d0 0 s a) ∧ (BdB m one s a → BdB m 0 s a) := by
  obtain ⟨l, hl⟩ := hl
  have := h.df a l hl
  refine ⟨⟨l.df, this.1, this.2, fun l' hl' _ => by rw [hl] at hl'; cases hl'; omega⟩, fun hB => ⟨Int.le_refl _, fun l' hl' => by have := hB.2 l' hl'; have := hB.1; omega⟩⟩
end
end Go.Proofs.Ytanfhmebjgmdpaa.Qj
