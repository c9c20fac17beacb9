/-
  Slices of integers in a row that are filled place by place (FO), then grown (GO, GS).
-/
import Derived.Test.YtanfhmebjgmdpaaGrow
namespace Go.Proofs.Ytanfhmebjgmdpaa
open Go.RowKit
set_option linter.unusedVariables false

/-- Slice i is full of marks of its own. -/
def fullI (n : Nat → Nat) (i : Nat) : List Int := List.replicate (n i) (-5000 - (i : Int))
/-- .. and k marks more behind them. -/
def grownI (n : Nat → Nat) (i k : Nat) : List Int := fullI n i ++ List.replicate k (-6000 - (i : Int))
theorem fullI_len (n : Nat → Nat) (i : Nat) : (fullI n i).length = n i := by simp [fullI]
theorem grownI_len (n : Nat → Nat) (i k : Nat) : (grownI n i k).length = n i + k := by simp [grownI, fullI]
theorem grownI_succ (n : Nat → Nat) (i k : Nat) : grownI n i (k + 1) = grownI n i k ++ [-6000 - (i : Int)] := by
  simp [grownI, List.replicate_succ']
def giv (z : Int) : Value := .int .i64 z
/-- The row of N slices. -/
def rowOf (N : Nat) (A : Nat → Option Addr) (n c : Nat → Nat) : List Value := (List.range N).map fun j => .slice (A j) (n j) (c j)
theorem rowOf_at {N : Nat} {A : Nat → Option Addr} {n c : Nat → Nat} {j : Nat} (hj : j < N) : (rowOf N A n c)[j]? = some (.slice (A j) (n j) (c j)) := by simp [rowOf, hj]
theorem Ow.blk {w : World} {e : TypeId} {size n c : Nat} {A : Option Addr} {xs : List Value} {b : Nat} (h : Ow w e size A n c xs (some b)) : ∃ cs, Bl w b e cs := by
  rcases h.2 with ⟨_, _, _, h⟩ | ⟨b', o, cur, hA, hg, hh, _⟩
  · cases h
  · cases hg; exact ⟨cur, hh⟩
abbrev tInt : TypeId := 3
abbrev tInts : TypeId := 30
def slcI (r : Option Addr × Nat × Nat) : Value := .slice r.1 r.2.1 r.2.2
/-- r is not in block gg. -/
def RSl.Off (r : RSl) (gg : Option Nat) : Prop := ∀ b o, 0 < r.n → r.A = some ⟨b, o, none⟩ → gg ≠ some b
theorem RSl.Ok.ofOw {w : World} {e : TypeId} {A : Option Addr} {n c : Nat} {xs : List Value} {g : Option Nat} (h : Ow w e 1 A n c xs g) : RSl.Ok w ⟨A, n, xs⟩ := by
  refine ⟨h.sl, fun b o hA hn => ?_⟩
  have hn' : 0 < n := hn
  rcases h.2 with ⟨h0, h1, _⟩ | ⟨b', o', cur, hA', hg, hh, _⟩
  · omega
  · have : A = some ⟨b, o, none⟩ := hA
    rw [this] at hA'; cases hA'
    exact (Array.getElem?_eq_some_iff.1 hh).1
theorem Ow.at_g {w : World} {e : TypeId} {A : Option Addr} {n c : Nat} {xs : List Value} {g : Option Nat} (h : Ow w e 1 A n c xs g) {b o : Nat} (hA : A = some ⟨b, o, none⟩) : g = some b := by
  rcases h.2 with ⟨h0, h1, _⟩ | ⟨b', o', cur, hA', hg, hh, _⟩
  · rw [hA] at h0; cases h0
  · rw [hA] at hA'; cases hA'; exact hg
theorem Ow.apart_ty {w : World} {e e' : TypeId} {A A' : Option Addr} {n n' c c' : Nat} {xs ys : List Value} {g g' : Option Nat} (h : Ow w e 1 A n c xs g) (h' : Ow w e' 1 A' n' c' ys g') (hne : e ≠ e') {b : Nat} (hg : g = some b) : g' ≠ some b := by
  intro hg'
  rw [hg] at h; rw [hg'] at h'
  obtain ⟨c1, h1⟩ := h.blk
  obtain ⟨c2, h2⟩ := h'.blk
  exact hne (h1.same h2).2

/-- What is held between two slices. -/
structure GO (N : Nat) (w0 w : World) (AA : Option Addr) (ac : Nat) (ag : Option Nat) (A : Nat → Option Addr) (n c : Nat → Nat) (g : Nat → Option Nat) (i : Nat) (Rs : List RSl) (G : Option Addr) (gc : Nat) (gg : Option Nat) (gs : List (Option Addr × Nat × Nat)) : Prop where
  hgd : ∀ j j' b, j < N → j' < N → g j = some b → g j' = some b → j = j'
  bl : Ow w tInts 1 AA N ac (rowOf N A n c) ag
  fut : ∀ j, i ≤ j → j < N → Ow w tInt 1 (A j) (n j) (c j) ((fullI n j).map giv) (g j)
  ok : ∀ r ∈ Rs, r.Ok w ∧ (∀ j, i ≤ j → j < N → r.Clear (A j) (n j)) ∧ r.Off gg
  row : Ow w tInts 1 G gs.length gc (gs.map slcI) gg
  gab : ∀ b, ag = some b → gg ≠ some b
  len : gs.length = 40 * i
  all : ∀ j, j < i → (⟨A j, n j, (fullI n j).map giv⟩ : RSl) ∈ Rs
  gr : ∀ j r, gs[j]? = some r → r.2.1 = n (j / 40) + (j % 40 + 1) ∧ (⟨r.1, r.2.1, (grownI n (j / 40) (j % 40 + 1)).map giv⟩ : RSl) ∈ Rs
  fr : Fr (fun b => ∃ j, j < N ∧ g j = some b) w0 w
/-- .. while slice i is grown: k marks behind it; gs.length = L. -/
structure GS (N : Nat) (w0 w : World) (AA : Option Addr) (ac : Nat) (ag : Option Nat) (A : Nat → Option Addr) (n c : Nat → Nat) (g : Nat → Option Nat) (i k L : Nat) (mA : Option Addr) (mc : Nat) (mg : Option Nat) (Rs : List RSl) (G : Option Addr) (gc : Nat) (gg : Option Nat) (gs : List (Option Addr × Nat × Nat)) : Prop where
  hgd : ∀ j j' b, j < N → j' < N → g j = some b → g j' = some b → j = j'
  bl : Ow w tInts 1 AA N ac (rowOf N A n c) ag
  fut : ∀ j, i < j → j < N → Ow w tInt 1 (A j) (n j) (c j) ((fullI n j).map giv) (g j)
  cur : Ow w tInt 1 mA (n i + k) mc ((grownI n i k).map giv) mg
  apc : ∀ j, i < j → j < N → ∀ b, mg = some b → g j ≠ some b
  apo : ∀ b, mg = some b → (b < w0.heap.size → ∃ j, j < N ∧ g j = some b)
  ok : ∀ r ∈ Rs, r.Ok w ∧ (∀ j, i < j → j < N → r.Clear (A j) (n j)) ∧ r.Off gg ∧ r.Clear mA (n i + k)
  row : Ow w tInts 1 G gs.length gc (gs.map slcI) gg
  gab : ∀ b, ag = some b → gg ≠ some b
  len : gs.length = L
  all : ∀ j, j ≤ i → (⟨A j, n j, (fullI n j).map giv⟩ : RSl) ∈ Rs
  gr : ∀ j r, gs[j]? = some r → r.2.1 = n (j / 40) + (j % 40 + 1) ∧ (⟨r.1, r.2.1, (grownI n (j / 40) (j % 40 + 1)).map giv⟩ : RSl) ∈ Rs
  fr : Fr (fun b => ∃ j, j < N ∧ g j = some b) w0 w
  new : ∀ b, gg = some b → w0.heap.size ≤ b
section
variable {N : Nat} {w0 w w' : World} {AA : Option Addr} {ac : Nat} {ag : Option Nat} {A : Nat → Option Addr} {n c : Nat → Nat} {g : Nat → Option Nat} {i k L : Nat} {mA : Option Addr} {mc : Nat} {mg : Option Nat} {Rs : List RSl} {G : Option Addr} {gc : Nat} {gg : Option Nat} {gs : List (Option Addr × Nat × Nat)}
theorem GO.start (h : GO N w0 w AA ac ag A n c g i Rs G gc gg gs) (hi : i < N) (hnew : ∀ b, gg = some b → w0.heap.size ≤ b) : GS N w0 w AA ac ag A n c g i 0 (40 * i) (A i) (c i) (g i) (⟨A i, n i, (fullI n i).map giv⟩ :: Rs) G gc gg gs := by
  have hc := h.fut i (Nat.le_refl _) hi
  have hlt : ∀ b o, A i = some ⟨b, o, none⟩ → ∀ j, i < j → j < N → ∀ b' o', A j = some ⟨b', o', none⟩ → b ≠ b' := fun b o hA j hj hj3 b' o' hA' e => by
    subst e
    have := h.hgd i j b hi hj3 (hc.at_g hA) ((h.fut j (by omega) hj3).at_g hA'); omega
  refine ⟨h.hgd, h.bl, fun j hj hj3 => h.fut j (by omega) hj3, by simpa [grownI] using hc, fun j hj hj3 b hb hb' => by have := h.hgd i j b hi hj3 hb hb'; omega, fun b hb _ => ⟨i, hi, hb⟩, fun r hr => ?_, h.row, h.gab, h.len, fun j hj => ?_, fun j r hr => ?_, h.fr, hnew⟩
  · rcases List.mem_cons.1 hr with rfl | hr
    · refine ⟨RSl.Ok.ofOw hc, fun j hj hj3 b o b' o' h0 hA hA' e => absurd e (hlt b o hA j hj hj3 b' o' hA'), fun b o h0 hA e => ?_, fun b o b' o' h0 hA hA' e => ?_⟩
      · exact hc.apart_ty h.row (by decide) (hc.at_g hA) e
      · rw [show A i = some ⟨b, o, none⟩ from hA] at hA'; cases hA'; exact ⟨rfl, by simp⟩
    · obtain ⟨h1, h2, h3⟩ := h.ok r hr
      exact ⟨h1, fun j hj hj3 => h2 j (by omega) hj3, h3, h2 i (Nat.le_refl _) hi⟩
  · rcases Nat.lt_or_eq_of_le hj with hj | rfl
    · exact List.mem_cons_of_mem _ (h.all j hj)
    · exact List.mem_cons_self
  · obtain ⟨h1, h2⟩ := h.gr j r hr
    exact ⟨h1, List.mem_cons_of_mem _ h2⟩
theorem GS.stop (h : GS N w0 w AA ac ag A n c g i k (40 * (i + 1)) mA mc mg Rs G gc gg gs) : GO N w0 w AA ac ag A n c g (i + 1) Rs G gc gg gs :=
  ⟨h.hgd, h.bl, fun j hj hj3 => h.fut j (by omega) hj3, fun r hr => ⟨(h.ok r hr).1, fun j hj hj3 => (h.ok r hr).2.1 j (by omega) hj3, (h.ok r hr).2.2.1⟩, h.row, h.gab, h.len, fun j hj => h.all j (by omega), h.gr, h.fr⟩
/-- One mark more behind slice i. -/
theorem GS.grow {A2 : Option Addr} {c2 : Nat} {g2 : Option Nat} {wa w2 : World} (h : GS N w0 w AA ac ag A n c g i k L mA mc mg Rs G gc gg gs) (ha : Fr (fun _ => False) w wa)
    (hO : Ow w2 tInt 1 A2 (n i + k + 1) c2 ((grownI n i k).map giv ++ [.int .i64 (-6000 - (i : Int))]) g2) (hf : Fr (fun x => some x = mg) wa w2) (hg : g2 = mg ∧ A2 = mA ∨ ∃ b, g2 = some b ∧ wa.heap.size ≤ b) (ht : TF mA (n i + k) wa w2) :
    GS N w0 w2 AA ac ag A n c g i (k + 1) L A2 c2 g2 (⟨A2, n i + (k + 1), (grownI n i (k + 1)).map giv⟩ :: Rs) G gc gg gs := by
  have hsz := ha.size
  have hcm := h.cur.fr ha (fun _ _ => id)
  have hO' : Ow w2 tInt 1 A2 (n i + (k + 1)) c2 ((grownI n i (k + 1)).map giv) g2 := by rw [grownI_succ, List.map_append]; exact hO
  have hmg : ∀ b, mg = some b → b < w.heap.size := h.cur.lt
  have hrow : Ow w2 tInts 1 G gs.length gc (gs.map slcI) gg := (h.row.fr ha (fun _ _ => id)).fr hf (fun b hb e => h.cur.apart_ty h.row (by decide) e.symm hb)
  have hfut : ∀ j, i < j → j < N → Ow w2 tInt 1 (A j) (n j) (c j) ((fullI n j).map giv) (g j) := fun j hj hj3 => ((h.fut j hj hj3).fr ha (fun _ _ => id)).fr hf (fun b hb e => h.apc j hj hj3 b e.symm hb)
  have hg2 : ∀ b, g2 = some b → mg = some b ∨ w.heap.size ≤ b := fun b hb => by
    rcases hg with ⟨rfl, _⟩ | ⟨b', e, hb'⟩
    · exact .inl hb
    · rw [e] at hb; cases hb; exact .inr (by omega)
  have hA2 : ∀ b o, A2 = some ⟨b, o, none⟩ → g2 = some b := fun b o hA => hO'.at_g hA
  have hfl : ∀ j, i < j → j < N → ∀ b, g j = some b → b < w.heap.size := fun j hj hj3 => (h.fut j hj hj3).lt
  refine ⟨h.hgd, (h.bl.fr ha (fun _ _ => id)).fr hf (fun b hb e => h.cur.apart_ty h.bl (by decide) e.symm hb), hfut, hO', fun j hj hj3 b hb hb' => ?_, fun b hb hlt => ?_, fun r hr => ?_, hrow, h.gab, h.len, fun j hj => List.mem_cons_of_mem _ (h.all j hj), fun j r hr => ⟨(h.gr j r hr).1, List.mem_cons_of_mem _ (h.gr j r hr).2⟩, (h.fr.trans (ha.weak _)).comp hf (fun b hb e => h.apo b e.symm hb), h.new⟩
  · rcases hg2 b hb with h1 | h1
    · exact h.apc j hj hj3 b h1 hb'
    · have := hfl j hj hj3 b hb'; omega
  · rcases hg2 b hb with h1 | h1
    · exact h.apo b h1 hlt
    · have := h.fr.size; omega
  · rcases List.mem_cons.1 hr with rfl | hr
    · refine ⟨RSl.Ok.ofOw hO', fun j hj hj3 b o b' o' h0 hA hA' e => ?_, fun b o h0 hA e => hO'.apart_ty hrow (by decide) (hA2 b o hA) e, fun b o b' o' h0 hA hA' e => ?_⟩
      · subst e
        have h1 := (h.fut j hj hj3).at_g hA'
        rcases hg2 b (hA2 b o hA) with h2 | h2
        · exact absurd h1 (h.apc j hj hj3 b h2)
        · have := hfl j hj hj3 b h1; omega
      · rw [show A2 = some ⟨b, o, none⟩ from hA] at hA'; cases hA'; exact ⟨rfl, by simp⟩
    · obtain ⟨h1, h2, h3, h4⟩ := h.ok r hr
      have h1' : r.Ok wa := RSl.fr h1 ha (fun _ _ _ _ => id)
      refine ⟨RSl.tf h1' h4 ht hf.size, h2, h3, fun b o b' o' h0 hA hA' e => ?_⟩
      rcases hg with ⟨rfl, rfl⟩ | ⟨b2, e2, hb2⟩
      · obtain ⟨h5, h6⟩ := h4 b o b' o' h0 hA hA' e
        exact ⟨h5, by omega⟩
      · have h5 := hA2 b' o' hA'
        rw [e2] at h5; cases h5
        have := h1.2 b o hA h0; omega
/-- The grown slice is put behind the others. -/
theorem GS.put {G2 : Option Addr} {c2 : Nat} {g2 : Option Nat} {wa w2 : World} (h : GS N w0 w AA ac ag A n c g i (k + 1) (40 * i + k) mA mc mg Rs G gc gg gs) (hk : k < 40) (hm : (⟨mA, n i + (k + 1), (grownI n i (k + 1)).map giv⟩ : RSl) ∈ Rs) (ha : Fr (fun _ => False) w wa)
    (hO : Ow w2 tInts 1 G2 (gs.length + 1) c2 (gs.map slcI ++ [.slice mA (n i + (k + 1)) mc]) g2) (hf : Fr (fun x => some x = gg) wa w2) (hg : g2 = gg ∨ ∃ b, g2 = some b ∧ wa.heap.size ≤ b) :
    GS N w0 w2 AA ac ag A n c g i (k + 1) (40 * i + (k + 1)) mA mc mg Rs G2 c2 g2 (gs ++ [(mA, n i + (k + 1), mc)]) := by
  have hsz := ha.size
  have hlen := h.len
  have hga : ∀ b, g2 = some b → gg = some b ∨ w.heap.size ≤ b := fun b hb => by
    rcases hg with rfl | ⟨b', e, hb'⟩
    · exact .inl hb
    · rw [e] at hb; cases hb; exact .inr (by omega)
  refine ⟨h.hgd, (h.bl.fr ha (fun _ _ => id)).fr hf (fun b hb e => h.gab b hb e.symm), fun j hj hj3 => ((h.fut j hj hj3).fr ha (fun _ _ => id)).fr hf (fun b hb e => (h.fut j hj hj3).apart_ty h.row (by decide) hb e.symm), (h.cur.fr ha (fun _ _ => id)).fr hf (fun b hb e => h.cur.apart_ty h.row (by decide) hb e.symm), h.apc, h.apo, fun r hr => ?_, ?_, fun b hb e => ?_, by rw [List.length_append, hlen]; simp; omega, h.all, fun j r hr => ?_, (h.fr.trans (ha.weak _)).comp hf (fun b hb e => by have := h.new b e.symm; omega), fun b hb => ?_⟩
  · obtain ⟨h1, h2, h3, h4⟩ := h.ok r hr
    refine ⟨RSl.fr (RSl.fr h1 ha (fun _ _ _ _ => id)) hf (fun b o h0 hA e => h3 b o h0 hA e.symm), h2, fun b o h0 hA e => ?_, h4⟩
    rcases hga b e with h5 | h5
    · exact h3 b o h0 hA h5
    · have := h1.2 b o hA h0; omega
  · rw [List.length_append, List.map_append]; exact hO
  · rcases hga b e with h5 | h5
    · exact h.gab b hb h5
    · have := h.bl.lt b hb; omega
  · by_cases hj : j < gs.length
    · rw [List.getElem?_append_left hj] at hr; exact h.gr j r hr
    · rw [List.getElem?_append_right (by omega)] at hr
      have hj0 : j - gs.length = 0 := by
        rcases Nat.eq_zero_or_pos (j - gs.length) with h0 | h0
        · exact h0
        · rw [List.getElem?_eq_none (by simp; omega)] at hr; cases hr
      rw [hj0] at hr
      simp at hr
      subst hr
      have hjd : j / 40 = i := by omega
      have hjm : j % 40 = k := by omega
      rw [hjd, hjm]
      exact ⟨rfl, hm⟩
  · rcases hga b hb with h5 | h5
    · exact h.new b h5
    · have := h.fr.size; omega
end
structure FO (N : Nat) (w0 w : World) (AA : Option Addr) (ac : Nat) (ag : Option Nat) (A : Nat → Option Addr) (n c : Nat → Nat) (g : Nat → Option Nat) (V : Nat → List Int) : Prop where
  hgd : ∀ j j' b, j < N → j' < N → g j = some b → g j' = some b → j = j'
  bl : Ow w tInts 1 AA N ac (rowOf N A n c) ag
  ow : ∀ j, j < N → Ow w tInt 1 (A j) (n j) (c j) ((V j).map giv) (g j)
  fr : Fr (fun b => ∃ j, j < N ∧ g j = some b) w0 w
section
variable {N : Nat} {w0 w : World} {AA : Option Addr} {ac : Nat} {ag : Option Nat} {A : Nat → Option Addr} {n c : Nat → Nat} {g : Nat → Option Nat} {V : Nat → List Int}
theorem FO.put (h : FO N w0 w AA ac ag A n c g V) {i k b o : Nat} (hi : i < N) (hk : k < n i) (hA : A i = some ⟨b, o, none⟩) (v : Int) :
    FO N w0 (w.setCell ⟨b, o + k, none⟩ (.int .i64 v)) AA ac ag A n c g (fun j => if j = i then (V i).set k v else V j) := by
  have hi' := h.ow i hi
  have hb : g i = some b := hi'.at_g hA
  have hF : Fr (· = b) w (w.setCell ⟨b, o + k, none⟩ (.int .i64 v)) := (Fr.refl _ _).setAt _
  refine ⟨h.hgd, h.bl.fr hF (fun b' e e' => hi'.apart_ty h.bl (by decide) hb (by rw [e, e'])), fun j hj => ?_, h.fr.trans (hF.mono fun x _ e => ⟨i, hi, by rw [hb, e]⟩)⟩
  by_cases hji : j = i
  · subst hji
    rw [if_pos rfl, List.map_set]
    have h2 := hA ▸ hi'
    have h3 := h2.put (j := k) (by omega) (.int .i64 v)
    rw [← hA] at h3
    exact h3
  · rw [if_neg hji]
    exact (h.ow j hj).fr hF (fun b' e e' => hji (h.hgd j i b hj hi (by rw [e, e']) hb))
theorem FO.len (h : FO N w0 w AA ac ag A n c g V) {j : Nat} (hj : j < N) : (V j).length = n j := by
  have := (h.ow j hj).1; simpa using this
/-- All of them are full: they can be grown. -/
theorem FO.go (h : FO N w0 w AA ac ag A n c g V) (hV : ∀ j, j < N → V j = fullI n j) : GO N w0 w AA ac ag A n c g 0 [] none 0 none [] :=
  ⟨h.hgd, h.bl, fun j _ hj => by rw [← hV j hj]; exact h.ow j hj, fun r hr => (nomatch hr), Ow.nil_ _ _ _, (fun b hb e => (nomatch e)), rfl, (fun j hj => absurd hj (by omega)), (fun j r hr => (by simp at hr)), h.fr⟩
end
/-- k marks are written. -/
def Filled (n : Nat → Nat) (V : Nat → List Int) (i k : Nat) : Prop := (∀ j, j < i → V j = fullI n j) ∧ (V i).take k = List.replicate k (-5000 - (i : Int))
theorem Filled.step {n : Nat → Nat} {V : Nat → List Int} {i k : Nat} (h : Filled n V i k) (hk : k < (V i).length) : Filled n (fun j => if j = i then (V i).set k (-5000 - (i : Int)) else V j) i (k + 1) := by
  refine ⟨fun j hj => ?_, ?_⟩
  · show (if j = i then _ else _) = _
    rw [if_neg (by omega)]; exact h.1 j hj
  · show (if i = i then _ else _ : List Int).take (k + 1) = _
    rw [if_pos rfl, List.take_add_one, List.take_set_of_le (Nat.le_refl _), h.2, List.getElem?_set_self hk, List.replicate_succ']; rfl
theorem Filled.done {n : Nat → Nat} {V : Nat → List Int} {i k : Nat} (h : Filled n V i k) (hk : (V i).length = n i) (hn : k = n i) : Filled n V (i + 1) 0 := by
  refine ⟨fun j hj => ?_, by simp⟩
  rcases Nat.lt_or_eq_of_le (Nat.lt_succ_iff.1 hj) with h1 | rfl
  · exact h.1 j h1
  · have := h.2
    rw [List.take_of_length_le (by omega), hn] at this
    exact this
theorem get_full (n : Nat → Nat) (i k : Nat) (h : k < n i) : ((fullI n i).map giv)[k]? = some (.int .i64 (-5000 - (i : Int))) := by
  simp [fullI, giv, h]
theorem get_grown1 (n : Nat → Nat) (i m k : Nat) (h : k < n i) : ((grownI n i m).map giv)[k]? = some (.int .i64 (-5000 - (i : Int))) := by
  simp [grownI, fullI, giv, h, List.getElem?_append]
theorem get_grown2 (n : Nat → Nat) (i m k : Nat) (h : ¬ k < n i) (h2 : k < n i + m) : ((grownI n i m).map giv)[k]? = some (.int .i64 (-6000 - (i : Int))) := by
  simp [grownI, fullI, giv, h, List.getElem?_append, List.getElem?_replicate]
  omega
end Go.Proofs.Ytanfhmebjgmdpaa
