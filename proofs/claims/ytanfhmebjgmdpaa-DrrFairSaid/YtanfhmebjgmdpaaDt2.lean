/-
  DrrTime, the plain law: the steps of a round.
-/
import Derived.Test.YtanfhmebjgmdpaaDt1
namespace Go.Proofs.Ytanfhmebjgmdpaa.Qj
open Go.RowKit
set_option linter.unusedVariables false
set_option linter.unusedSimpArgs false
section
variable {n : Nat} {quantum : Int} {b : BK} {costs : List Int} {last : Int} {r : RSt X}
theorem pn_none {q : Nat} (h : r.pend = none) : pn r q = 0 ∧ pc r q = 0 := by unfold pn pc; rw [h]; exact ⟨rfl, rfl⟩
theorem pn_some {r : RSt X} {k : Nat} {x : X} (h : r.pend = some (k, x)) (q : Nat) : (k = q → pn r q = 1 ∧ pc r q = x.2) ∧ (k ≠ q → pn r q = 0 ∧ pc r q = 0) := by
  unfold pn pc; rw [h]
  exact ⟨fun e => ⟨if_pos e, if_pos e⟩, fun e => ⟨if_neg e, if_neg e⟩⟩
theorem get_of {α : Type} {l : List α} {n q : Nat} (hl : l.length = n) (hq : q < n) : ∃ x, l[q]? = some x := ⟨_, List.getElem?_eq_getElem (by omega)⟩
/-- The next ones' turn begins behind line k1. -/
theorem PInv.next (h : PInv n quantum b costs last r) (hp : r.pend = none) (hf : r.fin = false) {D : Int} (hok : r.s.Ok xc D) (s1 : DS X) (hs1 : s1.lines = r.s.lines) (hq1 : s1.quantum = r.s.quantum) (k1 : Nat) (hk1 : (r.vis = true ∧ k1 = r.k + 1) ∨ (r.vis = false ∧ k1 = r.k))
    (hcur : ∀ l, r.vis = true → r.s.lines[r.k]? = some l → l.df ≤ 7) : PInv n quantum b costs last (adv xc (s1.lines.length - k1) s1 k1) := by
  have hq8 : 8 ≤ s1.quantum := by have := h.qu; have := h.q8; omega
  have hnt : ∀ q, ¬ touched r q → k1 ≤ q := fun q hn => by
    rcases hk1 with ⟨hv, rfl⟩ | ⟨hv, rfl⟩
    · have h1 : ¬ q < r.k := fun e => hn (.inr (.inl e))
      have h2 : q ≠ r.k := fun e => hn (.inr (.inr ⟨e, hv⟩))
      omega
    · have h1 : ¬ q < r.k := fun e => hn (.inr (.inl e))
      omega
  have htn : ∀ q, k1 ≤ q → ¬ touched r q := fun q hq ht => by
    rcases ht with e | e | ⟨e, e2⟩
    · rw [hf] at e; cases e
    · rcases hk1 with ⟨_, rfl⟩ | ⟨_, rfl⟩ <;> omega
    · rcases hk1 with ⟨_, rfl⟩ | ⟨hv, rfl⟩
      · omega
      · rw [hv] at e2; cases e2
  have hc7 : ∀ q l, r.s.lines[q]? = some l → cur r q → l.df ≤ 7 := fun q l hl hc => hcur l hc.2.1 (hc.1 ▸ hl)
  have hlast : last ≤ k1 := by
    rcases hk1 with ⟨hv, rfl⟩ | ⟨hv, rfl⟩
    · have := h.lastk hv; omega
    · have := (h.las hv hf).1; omega
  rcases adv_cases xc (s1.lines.length - k1) s1 k1 rfl hq8 (fun l hl x hx => hok.co l (hs1 ▸ hl) x hx) (fun l hl => (hok.df l (hs1 ▸ hl)).1) with ⟨k', l, x, t, h1, h2, h3, h4, h5⟩ | ⟨h1, k', h2⟩
  · rw [h5]
    rw [hs1] at h2
    have hkn : k' < n := by rw [← h.ll]; exact (List.getElem?_eq_some_iff.1 h2).1
    obtain ⟨ad, had⟩ := get_of h.la hkn
    obtain ⟨sv, hsv⟩ := get_of h.ls hkn
    obtain ⟨un, hun⟩ := get_of h.lu hkn
    obtain ⟨cc, hcc⟩ := get_of h.lc hkn
    have hlin := h.lin k' l ad sv cc un h2 had hsv hcc hun
    rw [(pn_none hp).1, (pn_none hp).2, Nat.add_zero, Int.add_zero] at hlin
    have hcx := hok.co l (List.mem_of_getElem? h2) x (by rw [h3]; simp)
    have hqe : (s1.quantum : Int) = quantum := by rw [hq1]; exact h.qu
    obtain ⟨g1, g2, g3, g4, g5, u, g6, g7⟩ := hlin.first (t' := touched ⟨s1.put k' { l with things := t, df := if t = [] then 0 else l.df + s1.quantum - xc x }, k', true, some (k', x), false⟩ k') (c' := cur ⟨s1.put k' { l with things := t, df := if t = [] then 0 else l.df + s1.quantum - xc x }, k', true, some (k', x), false⟩ k') (htn k' h1) h3 hcx (.inr (.inr ⟨rfl, rfl⟩)) ⟨rfl, rfl, rfl⟩ h.q8
    have hk'len : k' < s1.lines.length := by rw [hs1, h.ll]; exact hkn
    refine ⟨?_, h.la, h.ls, h.lu, h.lc, hqe, h.q8, fun q l' ad' sv' cc' un' e1 e2 e3 e4 e5 => ?_, fun q y hy => ?_, h.last0, fun _ => by show last ≤ (k' : Int); omega, fun _ => hkn, fun e => by cases e⟩
    · show (s1.put k' _).lines.length = n; rw [DS.put_len, hs1]; exact h.ll
    · have e1' : (s1.lines.set k' { l with things := t, df := if t = [] then 0 else l.df + s1.quantum - xc x })[q]? = some l' := e1
      by_cases hqk : q = k'
      · subst hqk
        rw [List.getElem?_set_self hk'len] at e1'
        cases e1'
        rw [had] at e2; cases e2
        rw [hsv] at e3; cases e3
        rw [hcc] at e4; cases e4
        rw [hun] at e5; cases e5
        have p1 : pn (⟨s1.put q { l with things := t, df := if t = [] then 0 else l.df + s1.quantum - xc x }, q, true, some (q, x), false⟩ : RSt X) q = 1 := ((pn_some rfl _).1 rfl).1
        have p2 : pc (⟨s1.put q { l with things := t, df := if t = [] then 0 else l.df + s1.quantum - xc x }, q, true, some (q, x), false⟩ : RSt X) q = x.2 := ((pn_some rfl _).1 rfl).2
        rw [p1, p2]
        rw [← hqe] at g1 ⊢
        exact g1
      · rw [List.getElem?_set_ne (fun e => hqk e.symm), hs1] at e1'
        have hl2 := h.lin q l' ad' sv' cc' un' e1' e2 e3 e4 e5
        have p1 : pn (⟨s1.put k' { l with things := t, df := if t = [] then 0 else l.df + s1.quantum - xc x }, k', true, some (k', x), false⟩ : RSt X) q = pn r q := by rw [(pn_none hp).1]; exact ((pn_some rfl q).2 (fun e => hqk e.symm)).1
        have p2 : pc (⟨s1.put k' { l with things := t, df := if t = [] then 0 else l.df + s1.quantum - xc x }, k', true, some (k', x), false⟩ : RSt X) q = pc r q := by rw [(pn_none hp).2]; exact ((pn_some rfl q).2 (fun e => hqk e.symm)).2
        rw [p1, p2]
        refine hl2.left (fun ht => ?_) (fun hnt' ht' => ?_) (fun hc => .inr (hc7 q l' e1' hc))
        · rcases Nat.lt_or_ge q k' with h | h
          · exact .inr (.inl h)
          · exact absurd ht (htn q (by omega))
        · rcases ht' with e | e | ⟨e, _⟩
          · cases e
          · exact h4 q l' (hnt q hnt') e (by rw [hs1]; exact e1')
          · exact absurd e hqk
    · have hy' : some (k', x) = some (q, y) := hy
      injection hy' with hy'
      injection hy' with e1 e2
      subst e1 e2
      exact ⟨rfl, rfl, rfl, hcx.1, sv, ad, un, cc, u, hsv, had, hun, hcc, g3, g4, g5, g6, g7, by omega⟩
  · rw [h2]
    refine ⟨by show s1.lines.length = n; rw [hs1]; exact h.ll, h.la, h.ls, h.lu, h.lc, by show (s1.quantum : Int) = quantum; rw [hq1]; exact h.qu, h.q8, fun q l' ad' sv' cc' un' e1 e2 e3 e4 e5 => ?_, (fun q y hy => by cases hy), h.last0, (fun e => by cases e), (fun e => by cases e), (fun _ e => by cases e)⟩
    have e1' : r.s.lines[q]? = some l' := by rw [← hs1]; exact e1
    have hl2 := h.lin q l' ad' sv' cc' un' e1' e2 e3 e4 e5
    rw [(pn_none hp).1, (pn_none hp).2] at hl2
    exact hl2.left (fun _ => .inl rfl) (fun hnt' _ => h1 q l' (hnt q hnt') (by rw [hs1]; exact e1')) (fun hc => .inr (hc7 q l' e1' hc))
/-- The iterator's own turn. -/
theorem PInv.turn (h : PInv n quantum b costs last r) (hp : r.pend = none) (hf : r.fin = false) {D : Int} (hok : r.s.Ok xc D) : PInv n quantum b costs last (r.go xc) := by
  unfold RSt.go
  by_cases hv : r.vis = true
  · rw [if_pos hv]
    have hkn := h.visk hv
    obtain ⟨l, hl⟩ := get_of h.ll hkn
    rcases goOn_cases xc r.s r.k l hl with ⟨x, t, hx, hc, hg⟩ | ⟨hx, hg⟩
    · rw [hg]
      obtain ⟨ad, had⟩ := get_of h.la hkn
      obtain ⟨sv, hsv⟩ := get_of h.ls hkn
      obtain ⟨un, hun⟩ := get_of h.lu hkn
      obtain ⟨cc, hcc⟩ := get_of h.lc hkn
      have hlin := h.lin r.k l ad sv cc un hl had hsv hcc hun
      rw [(pn_none hp).1, (pn_none hp).2, Nat.add_zero, Int.add_zero] at hlin
      have hcx := hok.co l (List.mem_of_getElem? hl) x (by rw [hx]; simp)
      have hlen : r.k < r.s.lines.length := by rw [h.ll]; exact hkn
      obtain ⟨g1, g2, g3, g4, g5, u, g6, g7⟩ := hlin.more (t' := touched ⟨r.s.put r.k (l.served xc x t), r.k, true, some (r.k, x), false⟩ r.k) (c' := cur ⟨r.s.put r.k (l.served xc x t), r.k, true, some (r.k, x), false⟩ r.k) ⟨rfl, hv, hf⟩ (.inr (.inr ⟨rfl, hv⟩)) hx ⟨hcx.1, hc⟩ (.inr (.inr ⟨rfl, rfl⟩)) ⟨rfl, rfl, rfl⟩
      refine ⟨?_, h.la, h.ls, h.lu, h.lc, h.qu, h.q8, fun q l' ad' sv' cc' un' e1 e2 e3 e4 e5 => ?_, fun q y hy => ?_, h.last0, fun _ => h.lastk hv, fun _ => hkn, fun e => by cases e⟩
      · show (r.s.put r.k _).lines.length = n; rw [DS.put_len]; exact h.ll
      · have e1' : (r.s.lines.set r.k (l.served xc x t))[q]? = some l' := e1
        by_cases hqk : q = r.k
        · subst hqk
          rw [List.getElem?_set_self hlen] at e1'
          cases e1'
          rw [had] at e2; cases e2
          rw [hsv] at e3; cases e3
          rw [hcc] at e4; cases e4
          rw [hun] at e5; cases e5
          have p1 : pn (⟨r.s.put r.k (l.served xc x t), r.k, true, some (r.k, x), false⟩ : RSt X) r.k = 1 := ((pn_some rfl _).1 rfl).1
          have p2 : pc (⟨r.s.put r.k (l.served xc x t), r.k, true, some (r.k, x), false⟩ : RSt X) r.k = x.2 := ((pn_some rfl _).1 rfl).2
          rw [p1, p2]
          exact g1
        · rw [List.getElem?_set_ne (fun e => hqk e.symm)] at e1'
          have hl2 := h.lin q l' ad' sv' cc' un' e1' e2 e3 e4 e5
          have p1 : pn (⟨r.s.put r.k (l.served xc x t), r.k, true, some (r.k, x), false⟩ : RSt X) q = pn r q := by rw [(pn_none hp).1]; exact ((pn_some rfl q).2 (fun e => hqk e.symm)).1
          have p2 : pc (⟨r.s.put r.k (l.served xc x t), r.k, true, some (r.k, x), false⟩ : RSt X) q = pc r q := by rw [(pn_none hp).2]; exact ((pn_some rfl q).2 (fun e => hqk e.symm)).2
          rw [p1, p2]
          refine hl2.left (fun ht => ?_) (fun hnt' ht' => ?_) (fun hc => absurd hc.1 hqk)
          · rcases ht with e | e | ⟨e, _⟩
            · rw [hf] at e; cases e
            · exact .inr (.inl e)
            · exact absurd e hqk
          · rcases ht' with e | e | ⟨e, _⟩
            · cases e
            · exact absurd (.inr (.inl e)) hnt'
            · exact absurd e hqk
      · have hy' : some (r.k, x) = some (q, y) := hy
        injection hy' with hy'
        injection hy' with e1 e2
        subst e1 e2
        exact ⟨rfl, rfl, rfl, hcx.1, sv, ad, un, cc, u, hsv, had, hun, hcc, g3, g4, g5, g6, g7, by omega⟩
    · rw [hg]
      refine h.next hp hf hok r.s rfl rfl (r.k + 1) (.inl ⟨hv, rfl⟩) fun l' _ hl' => ?_
      rw [hl] at hl'; cases hl'
      rcases ht : l.things with _ | ⟨x, t⟩
      · obtain ⟨ad, had⟩ := get_of h.la hkn
        obtain ⟨sv, hsv⟩ := get_of h.ls hkn
        obtain ⟨un, hun⟩ := get_of h.lu hkn
        obtain ⟨cc, hcc⟩ := get_of h.lc hkn
        have := (h.lin r.k l ad sv cc un hl had hsv hcc hun).emp ht
        omega
      · have h1 := hx x t ht
        have h2 := hok.co l (List.mem_of_getElem? hl) x (by rw [ht]; simp)
        omega
  · have hv' : r.vis = false := by simpa using hv
    rw [if_neg hv]
    exact h.next hp hf hok { r.s with busy := true } rfl rfl r.k (.inr ⟨hv', rfl⟩) fun l e _ => absurd e hv
/-- A service is booked. -/
theorem PInv.book (h : PInv n quantum b costs last r) {q : Nat} {x : X} (hp : r.pend = some (q, x)) {sv : Nat} {cc : Int} (hsv : b.served[q]? = some sv) (hcc : costs[q]? = some cc) :
    PInv n quantum { b with served := b.served.set q (sv + 1) } (costs.set q (cc + x.1.2)) q { r with pend := none } := by
  obtain ⟨hk, hv, hf, hx1, sv', ad, un, cc', u, e1, e2, e3, e4, e5, e6, e7, e8, e9, e10⟩ := h.pend q x hp
  rw [hsv] at e1; cases e1
  rw [hcc] at e4; cases e4
  have hqs : q < b.served.length := (List.getElem?_eq_some_iff.1 hsv).1
  have hqc : q < costs.length := (List.getElem?_eq_some_iff.1 hcc).1
  refine ⟨h.ll, h.la, by show (b.served.set q (sv + 1)).length = n; rw [List.length_set]; exact h.ls, h.lu, by rw [List.length_set]; exact h.lc, h.qu, h.q8, fun q' l' ad' sv'' cc'' un' f1 f2 f3 f4 f5 => ?_, fun q' y hy => (by cases hy), (by show (0 : Int) ≤ q; omega), fun _ => (by show (q : Int) ≤ r.k; omega), h.visk, fun e _ => absurd hv (by rw [e]; simp)⟩
  have f3' : (b.served.set q (sv + 1))[q']? = some sv'' := f3
  have hz := pn_none (r := { r with pend := none }) (q := q') rfl
  rw [hz.1, hz.2, Nat.add_zero, Int.add_zero]
  by_cases hqq : q' = q
  · subst hqq
    rw [List.getElem?_set_self hqs] at f3'
    rw [List.getElem?_set_self hqc] at f4
    cases f3'; cases f4
    have h1 := h.lin q' l' ad' sv cc un' f1 f2 hsv hcc f5
    have p1 : pn r q' = 1 := ((pn_some hp _).1 rfl).1
    have p2 : pc r q' = x.2 := ((pn_some hp _).1 rfl).2
    rw [p1, p2, ← e6] at h1
    exact h1
  · rw [List.getElem?_set_ne (fun e => hqq e.symm)] at f3' f4
    have h1 := h.lin q' l' ad' sv'' cc'' un' f1 f2 f3' f4 f5
    have p1 : pn r q' = 0 := ((pn_some hp _).2 (fun e => hqq e.symm)).1
    have p2 : pc r q' = 0 := ((pn_some hp _).2 (fun e => hqq e.symm)).2
    rw [p1, p2, Nat.add_zero, Int.add_zero] at h1
    exact h1
end
/-- The costs ahead of a round. -/
def cost0 (s : DS X) : List Int := s.lines.map fun l => if l.things = [] then -1 else 0
theorem Btw.start {n : Nat} {quantum : Int} {b : BK} {s : DS X} (h : Btw n quantum b s) (hq : 8 ≤ quantum) : PInv n quantum b (cost0 s) 0 ⟨s, 0, false, none, false⟩ := by
  refine ⟨h.ll, h.la, h.ls, h.lu, by unfold cost0; rw [List.length_map]; exact h.ll, h.qu, hq, fun q l ad sv cc un e1 e2 e3 e4 e5 => ?_, fun q x hx => (by cases hx), Int.le_refl _, fun e => (by cases e), fun e => (by cases e), fun _ _ => ⟨rfl, rfl⟩⟩
  have e1' : s.lines[q]? = some l := e1
  obtain ⟨h1, h2, h3, h4, h5, h6, h7⟩ := h.lin q l ad sv un e1' e2 e3 e5
  have hz := pn_none (r := (⟨s, 0, false, none, false⟩ : RSt X)) (q := q) rfl
  rw [hz.1, hz.2, Nat.add_zero, Int.add_zero]
  have hcc : cc = if l.things = [] then -1 else 0 := by
    unfold cost0 at e4
    rw [List.getElem?_map, e1'] at e4
    simpa using e4.symm
  refine ⟨h1, h2, h3, h5, h6, .inl ⟨fun ht => ?_, hcc, h4, h7⟩⟩
  rcases ht with e | e | ⟨_, e⟩
  · cases e
  · exact absurd e (Nat.not_lt_zero _)
  · cases e
theorem PInv.done {n : Nat} {quantum : Int} {b : BK} {costs : List Int} {last : Int} {r : RSt X} (h : PInv n quantum b costs last r) (hp : r.pend = none) (hf : r.fin = true) :
    Btw n quantum { b with rounds := b.rounds + 1 } r.s ∧ ∀ (q : Nat) (l : LN X) (cc : Int), r.s.lines[q]? = some l → costs[q]? = some cc → cc ≠ 0 ∧ cc < quantum + 8 ∧ 0 ≤ l.df ∧ l.df ≤ 7 ∧ (l.things = [] → l.df = 0) := by
  have hz := fun (q : Nat) => pn_none (q := q) hp
  have hl : ∀ (q : Nat) (l : LN X) (ad sv : Nat) (cc : Int) (un : List Int), r.s.lines[q]? = some l → b.added[q]? = some ad → b.served[q]? = some sv → costs[q]? = some cc → b.until_[q]? = some un → Lin quantum b.rounds (touched r q) (cur r q) ad sv cc un l := fun q l ad sv cc un e1 e2 e3 e4 e5 => by
    have := h.lin q l ad sv cc un e1 e2 e3 e4 e5
    rwa [(hz q).1, (hz q).2, Nat.add_zero, Int.add_zero] at this
  have hcur : ∀ q, ¬ cur r q := fun q hc => by rw [hc.2.2] at hf; cases hf
  have hto : ∀ q, touched r q := fun q => .inl hf
  constructor
  · refine ⟨h.ll, h.la, h.ls, h.lu, h.qu, fun q l ad sv un e1 e2 e3 e5 => ?_⟩
    have hq : q < n := by rw [← h.ll]; exact (List.getElem?_eq_some_iff.1 e1).1
    obtain ⟨cc, e4⟩ := get_of h.lc hq
    have h1 := hl q l ad sv cc un e1 e2 e3 e4 e5
    refine ⟨h1.len, h1.num, h1.df0, ?_, h1.emp, h1.ul, ?_⟩
    · rcases h1.ph with ⟨h2, _⟩ | ⟨_, _, h2⟩ | ⟨_, _, _, h2, _⟩
      · exact absurd (hto q) h2
      · have := h1.emp h2; omega
      · exact h2.elim (fun e => absurd e (hcur q)) id
    · intro j hj
      rcases h1.ph with ⟨h2, _⟩ | ⟨_, _, h2⟩ | ⟨_, _, _, _, h2⟩
      · exact absurd (hto q) h2
      · rw [h2] at hj; simp at hj
      · obtain ⟨u, hu, hr⟩ := h2 j hj
        exact ⟨u, hu, by show b.rounds + 1 + (j : Int) + 1 ≤ u; omega⟩
  · intro q l cc e1 e4
    have hq : q < n := by rw [← h.ll]; exact (List.getElem?_eq_some_iff.1 e1).1
    obtain ⟨ad, e2⟩ := get_of h.la hq
    obtain ⟨sv, e3⟩ := get_of h.ls hq
    obtain ⟨un, e5⟩ := get_of h.lu hq
    have h1 := hl q l ad sv cc un e1 e2 e3 e4 e5
    have hd := h1.df0
    have hq8 := h.q8
    rcases h1.ph with ⟨h2, _⟩ | ⟨_, h3, h2⟩ | ⟨_, h3, h4, h2, _⟩
    · exact absurd (hto q) h2
    · have := h1.emp h2
      exact ⟨by omega, by omega, hd, by omega, h1.emp⟩
    · have := h2.elim (fun e => absurd e (hcur q)) id
      exact ⟨by omega, by omega, hd, this, h1.emp⟩
/-- A thing is added. -/
theorem Btw.add {n : Nat} {quantum : Int} {b : BK} {s : DS X} (h : Btw n quantum b s) {q : Nat} {l : LN X} {ad : Nat} {un : List Int} (hl : s.lines[q]? = some l) (ha : b.added[q]? = some ad) (hu : b.until_[q]? = some un) (c : Int) (g' : Option Nat) :
    Btw n quantum { b with added := b.added.set q (ad + 1), until_ := b.until_.set q (un ++ [b.rounds + l.things.length + 1]) } (s.put q { l with things := l.things ++ [(((ad : Int), c), c)], g := g' }) := by
  have hqa : q < b.added.length := (List.getElem?_eq_some_iff.1 ha).1
  have hqu : q < b.until_.length := (List.getElem?_eq_some_iff.1 hu).1
  have hql : q < s.lines.length := (List.getElem?_eq_some_iff.1 hl).1
  refine ⟨by rw [DS.put_len]; exact h.ll, by show (b.added.set _ _).length = n; rw [List.length_set]; exact h.la, h.ls, by show (b.until_.set _ _).length = n; rw [List.length_set]; exact h.lu, h.qu, fun q' l' ad' sv' un' e1 e2 e3 e5 => ?_⟩
  have e1' : (s.lines.set q { l with things := l.things ++ [(((ad : Int), c), c)], g := g' })[q']? = some l' := e1
  have e2' : (b.added.set q (ad + 1))[q']? = some ad' := e2
  have e5' : (b.until_.set q (un ++ [b.rounds + l.things.length + 1]))[q']? = some un' := e5
  by_cases hqq : q' = q
  · subst hqq
    rw [List.getElem?_set_self hql] at e1'
    rw [List.getElem?_set_self hqa] at e2'
    rw [List.getElem?_set_self hqu] at e5'
    cases e1'; cases e2'; cases e5'
    obtain ⟨h1, h2, h3, h4, h5, h6, h7⟩ := h.lin q' l ad sv' un hl ha e3 hu
    refine ⟨by simp; omega, fun j x hj => ?_, h3, h4, fun e => by simp at e, by simp; omega, fun j hj => ?_⟩
    · have hj' : (l.things ++ [(((ad : Int), c), c)])[j]? = some x := hj
      by_cases hjl : j < l.things.length
      · rw [List.getElem?_append_left hjl] at hj'
        exact h2 j x hj'
      · have hjl2 : j < (l.things ++ [(((ad : Int), c), c)]).length := (List.getElem?_eq_some_iff.1 hj').1
        simp at hjl2
        obtain rfl : j = l.things.length := by omega
        rw [List.getElem?_append_right (Nat.le_refl _), Nat.sub_self] at hj'
        have hj2 : some (((ad : Int), c), c) = some x := hj'
        cases hj2
        exact ⟨by show (ad : Int) = _; omega, rfl⟩
    · have hj2 : j < (l.things ++ [(((ad : Int), c), c)]).length := hj
      simp at hj2
      by_cases hjl : j < l.things.length
      · obtain ⟨u, hu1, hu2⟩ := h7 j hjl
        exact ⟨u, by rw [List.getElem?_append_left (by omega)]; exact hu1, hu2⟩
      · obtain rfl : j = l.things.length := by omega
        refine ⟨b.rounds + l.things.length + 1, ?_, Int.le_refl _⟩
        rw [List.getElem?_append_right (by omega), show sv' + l.things.length - un.length = 0 by omega]; rfl
  · rw [List.getElem?_set_ne (fun e => hqq e.symm)] at e1' e2' e5'
    exact h.lin q' l' ad' sv' un' e1' e2' e3 e5'
end Go.Proofs.Ytanfhmebjgmdpaa.Qj
