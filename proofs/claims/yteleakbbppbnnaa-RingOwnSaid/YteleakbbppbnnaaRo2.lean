/-
  Three slices that are grown place by place: what is held (GO, GS), and the steps.
-/
import Derived.Test.YteleakbbppbnnaaRo1
namespace Go.Proofs.Yteleakbbppbnnaa
open Go.RowKit
set_option linter.unusedVariables false

/-- Slice i is full of marks of its own. -/
def fullI (n : Nat → Nat) (i : Nat) : List Int := List.replicate (n i) (-5000 - (i : Int))
/-- .. and k marks more behind them. -/
def grownI (n : Nat → Nat) (i k : Nat) : List Int := fullI n i ++ List.replicate k (-6000 - (i : Int))
theorem fullI_len (n : Nat → Nat) (i : Nat) : (fullI n i).length = n i := by simp [fullI]
theorem grownI_len (n : Nat → Nat) (i k : Nat) : (grownI n i k).length = n i + k := by simp [grownI, fullI]
theorem grownI_succ (n : Nat → Nat) (i k : Nat) : grownI n i (k + 1) = grownI n i k ++ [-6000 - (i : Int)] := by
  simp [grownI, List.replicate_succ']
abbrev tInt : TypeId := 3
abbrev tInts : TypeId := 22
def slcI (r : Option Addr × Nat × Nat) : Value := .slice r.1 r.2.1 r.2.2
/-- r is not in block gg. -/
def RSl.Off (r : RSl) (gg : Option Nat) : Prop := ∀ b o, 0 < r.n → r.A = some ⟨b, o, none⟩ → gg ≠ some b
theorem RSl.Ok.ofOw {w : World} {e : TypeId} {A : Option Addr} {n c : Nat} {xs : List Value} {g : Option Nat} (h : Ow w e 1 A n c xs g) : RSl.Ok w ⟨A, n, xs⟩ := by
  refine ⟨h.sl, fun b o hA hn => ?_⟩
  have hn' : 0 < n := hn
  rcases h.2 with ⟨h0, h1, _⟩ | ⟨b', o', cur, hA', hg, hh, _⟩
  · omega
  · have : A = some ⟨b, o, none⟩ := hA
    rw [this] at hA'; cases hA'
    exact (Array.getElem?_eq_some_iff.1 hh).1
theorem Ow.at_g {w : World} {e : TypeId} {A : Option Addr} {n c : Nat} {xs : List Value} {g : Option Nat} (h : Ow w e 1 A n c xs g) {b o : Nat} (hA : A = some ⟨b, o, none⟩) : g = some b := by
  rcases h.2 with ⟨h0, h1, _⟩ | ⟨b', o', cur, hA', hg, hh, _⟩
  · rw [hA] at h0; cases h0
  · rw [hA] at hA'; cases hA'; exact hg
theorem Ow.apart_ty {w : World} {e e' : TypeId} {A A' : Option Addr} {n n' c c' : Nat} {xs ys : List Value} {g g' : Option Nat} (h : Ow w e 1 A n c xs g) (h' : Ow w e' 1 A' n' c' ys g') (hne : e ≠ e') {b : Nat} (hg : g = some b) : g' ≠ some b := by
  intro hg'
  rw [hg] at h; rw [hg'] at h'
  obtain ⟨c1, h1⟩ := h.ty
  obtain ⟨c2, h2⟩ := h'.ty
  exact hne (h1.same h2).2

/-- What is held between two slices. -/
structure GO (w0 w : World) (ab : Nat) (A : Nat → Option Addr) (n c : Nat → Nat) (g : Nat → Option Nat) (i : Nat) (Rs : List RSl) (G : Option Addr) (gc : Nat) (gg : Option Nat) (gs : List (Option Addr × Nat × Nat)) : Prop where
  hgd : ∀ j j' b, j < 3 → j' < 3 → g j = some b → g j' = some b → j = j'
  bl : Bl w ab tInts #[.slice (A 0) (n 0) (c 0), .slice (A 1) (n 1) (c 1), .slice (A 2) (n 2) (c 2)]
  fut : ∀ j, i ≤ j → j < 3 → Ow w tInt 1 (A j) (n j) (c j) ((fullI n j).map iv) (g j)
  ok : ∀ r ∈ Rs, r.Ok w ∧ (∀ j, i ≤ j → j < 3 → r.Clear (A j) (n j)) ∧ r.Off gg
  row : Ow w tInts 1 G gs.length gc (gs.map slcI) gg
  gab : gg ≠ some ab
  len : gs.length = 40 * i
  all : ∀ j, j < i → (⟨A j, n j, (fullI n j).map iv⟩ : RSl) ∈ Rs
  gr : ∀ j r, gs[j]? = some r → r.2.1 = n (j / 40) + (j % 40 + 1) ∧ (⟨r.1, r.2.1, (grownI n (j / 40) (j % 40 + 1)).map iv⟩ : RSl) ∈ Rs
  fr : Fr (fun b => ∃ j, j < 3 ∧ g j = some b) w0 w
/-- .. while slice i is grown: k marks behind it; gs.length = L. -/
structure GS (w0 w : World) (ab : Nat) (A : Nat → Option Addr) (n c : Nat → Nat) (g : Nat → Option Nat) (i k L : Nat) (mA : Option Addr) (mc : Nat) (mg : Option Nat) (Rs : List RSl) (G : Option Addr) (gc : Nat) (gg : Option Nat) (gs : List (Option Addr × Nat × Nat)) : Prop where
  hgd : ∀ j j' b, j < 3 → j' < 3 → g j = some b → g j' = some b → j = j'
  bl : Bl w ab tInts #[.slice (A 0) (n 0) (c 0), .slice (A 1) (n 1) (c 1), .slice (A 2) (n 2) (c 2)]
  fut : ∀ j, i < j → j < 3 → Ow w tInt 1 (A j) (n j) (c j) ((fullI n j).map iv) (g j)
  cur : Ow w tInt 1 mA (n i + k) mc ((grownI n i k).map iv) mg
  apc : ∀ j, i < j → j < 3 → ∀ b, mg = some b → g j ≠ some b
  apo : ∀ b, mg = some b → (b < w0.heap.size → ∃ j, j < 3 ∧ g j = some b)
  ok : ∀ r ∈ Rs, r.Ok w ∧ (∀ j, i < j → j < 3 → r.Clear (A j) (n j)) ∧ r.Off gg ∧ r.Clear mA (n i + k)
  row : Ow w tInts 1 G gs.length gc (gs.map slcI) gg
  gab : gg ≠ some ab
  len : gs.length = L
  all : ∀ j, j ≤ i → (⟨A j, n j, (fullI n j).map iv⟩ : RSl) ∈ Rs
  gr : ∀ j r, gs[j]? = some r → r.2.1 = n (j / 40) + (j % 40 + 1) ∧ (⟨r.1, r.2.1, (grownI n (j / 40) (j % 40 + 1)).map iv⟩ : RSl) ∈ Rs
  fr : Fr (fun b => ∃ j, j < 3 ∧ g j = some b) w0 w
  new : ∀ b, gg = some b → w0.heap.size ≤ b
section
variable {w0 w w' : World} {ab : Nat} {A : Nat → Option Addr} {n c : Nat → Nat} {g : Nat → Option Nat} {i k L : Nat} {mA : Option Addr} {mc : Nat} {mg : Option Nat} {Rs : List RSl} {G : Option Addr} {gc : Nat} {gg : Option Nat} {gs : List (Option Addr × Nat × Nat)}
theorem GO.start (h : GO w0 w ab A n c g i Rs G gc gg gs) (hi : i < 3) (hnew : ∀ b, gg = some b → w0.heap.size ≤ b) : GS w0 w ab A n c g i 0 (40 * i) (A i) (c i) (g i) (⟨A i, n i, (fullI n i).map iv⟩ :: Rs) G gc gg gs := by
  have hc := h.fut i (Nat.le_refl _) hi
  have hlt : ∀ b o, A i = some ⟨b, o, none⟩ → ∀ j, i < j → j < 3 → ∀ b' o', A j = some ⟨b', o', none⟩ → b ≠ b' := fun b o hA j hj hj3 b' o' hA' e => by
    subst e
    have := h.hgd i j b hi hj3 (hc.at_g hA) ((h.fut j (by omega) hj3).at_g hA'); omega
  refine ⟨h.hgd, h.bl, fun j hj hj3 => h.fut j (by omega) hj3, by simpa [grownI] using hc, fun j hj hj3 b hb hb' => by have := h.hgd i j b hi hj3 hb hb'; omega, fun b hb _ => ⟨i, hi, hb⟩, fun r hr => ?_, h.row, h.gab, h.len, fun j hj => ?_, fun j r hr => ?_, h.fr, hnew⟩
  · rcases List.mem_cons.1 hr with rfl | hr
    · refine ⟨RSl.Ok.ofOw hc, fun j hj hj3 b o b' o' h0 hA hA' e => absurd e (hlt b o hA j hj hj3 b' o' hA'), fun b o h0 hA e => ?_, fun b o b' o' h0 hA hA' e => ?_⟩
      · exact hc.apart_ty h.row (by decide) (hc.at_g hA) e
      · rw [show A i = some ⟨b, o, none⟩ from hA] at hA'; cases hA'; exact ⟨rfl, by simp⟩
    · obtain ⟨h1, h2, h3⟩ := h.ok r hr
      exact ⟨h1, fun j hj hj3 => h2 j (by omega) hj3, h3, h2 i (Nat.le_refl _) hi⟩
  · rcases Nat.lt_or_eq_of_le hj with hj | rfl
    · exact List.mem_cons_of_mem _ (h.all j hj)
    · exact List.mem_cons_self
  · obtain ⟨h1, h2⟩ := h.gr j r hr
    exact ⟨h1, List.mem_cons_of_mem _ h2⟩
theorem GS.stop (h : GS w0 w ab A n c g i k (40 * (i + 1)) mA mc mg Rs G gc gg gs) : GO w0 w ab A n c g (i + 1) Rs G gc gg gs :=
  ⟨h.hgd, h.bl, fun j hj hj3 => h.fut j (by omega) hj3, fun r hr => ⟨(h.ok r hr).1, fun j hj hj3 => (h.ok r hr).2.1 j (by omega) hj3, (h.ok r hr).2.2.1⟩, h.row, h.gab, h.len, fun j hj => h.all j (by omega), h.gr, h.fr⟩
/-- One mark more behind slice i. -/
theorem GS.grow {A2 : Option Addr} {c2 : Nat} {g2 : Option Nat} {wa w2 : World} (h : GS w0 w ab A n c g i k L mA mc mg Rs G gc gg gs) (ha : Fr (fun _ => False) w wa)
    (hO : Ow w2 tInt 1 A2 (n i + k + 1) c2 ((grownI n i k).map iv ++ [.int .i64 (-6000 - (i : Int))]) g2) (hf : Fr (fun x => some x = mg) wa w2) (hg : g2 = mg ∧ A2 = mA ∨ ∃ b, g2 = some b ∧ wa.heap.size ≤ b) (ht : TF mA (n i + k) wa w2) :
    GS w0 w2 ab A n c g i (k + 1) L A2 c2 g2 (⟨A2, n i + (k + 1), (grownI n i (k + 1)).map iv⟩ :: Rs) G gc gg gs := by
  have hsz := ha.size
  have hcm := h.cur.fr ha (fun _ _ => id)
  have hO' : Ow w2 tInt 1 A2 (n i + (k + 1)) c2 ((grownI n i (k + 1)).map iv) g2 := by rw [grownI_succ, List.map_append]; exact hO
  have hmg : ∀ b, mg = some b → b < w.heap.size := h.cur.lt
  have hrow : Ow w2 tInts 1 G gs.length gc (gs.map slcI) gg := (h.row.fr ha (fun _ _ => id)).fr hf (fun b hb e => h.cur.apart_ty h.row (by decide) e.symm hb)
  have hfut : ∀ j, i < j → j < 3 → Ow w2 tInt 1 (A j) (n j) (c j) ((fullI n j).map iv) (g j) := fun j hj hj3 => ((h.fut j hj hj3).fr ha (fun _ _ => id)).fr hf (fun b hb e => h.apc j hj hj3 b e.symm hb)
  have hg2 : ∀ b, g2 = some b → mg = some b ∨ w.heap.size ≤ b := fun b hb => by
    rcases hg with ⟨rfl, _⟩ | ⟨b', e, hb'⟩
    · exact .inl hb
    · rw [e] at hb; cases hb; exact .inr (by omega)
  have hA2 : ∀ b o, A2 = some ⟨b, o, none⟩ → g2 = some b := fun b o hA => hO'.at_g hA
  have hfl : ∀ j, i < j → j < 3 → ∀ b, g j = some b → b < w.heap.size := fun j hj hj3 => (h.fut j hj hj3).lt
  refine ⟨h.hgd, (h.bl.fr ha id).fr hf (fun e => ?_), hfut, hO', fun j hj hj3 b hb hb' => ?_, fun b hb hlt => ?_, fun r hr => ?_, hrow, h.gab, h.len, fun j hj => List.mem_cons_of_mem _ (h.all j hj), fun j r hr => ⟨(h.gr j r hr).1, List.mem_cons_of_mem _ (h.gr j r hr).2⟩, (h.fr.trans (ha.weak _)).comp hf (fun b hb e => h.apo b e.symm hb), h.new⟩
  · have hc := h.cur
    rw [← e] at hc
    obtain ⟨cs, hcs⟩ := hc.ty
    exact absurd (h.bl.same hcs).2 (by decide)
  · rcases hg2 b hb with h1 | h1
    · exact h.apc j hj hj3 b h1 hb'
    · have := hfl j hj hj3 b hb'; omega
  · rcases hg2 b hb with h1 | h1
    · exact h.apo b h1 hlt
    · have := h.fr.size; omega
  · rcases List.mem_cons.1 hr with rfl | hr
    · refine ⟨RSl.Ok.ofOw hO', fun j hj hj3 b o b' o' h0 hA hA' e => ?_, fun b o h0 hA e => hO'.apart_ty hrow (by decide) (hA2 b o hA) e, fun b o b' o' h0 hA hA' e => ?_⟩
      · subst e
        have h1 := (h.fut j hj hj3).at_g hA'
        rcases hg2 b (hA2 b o hA) with h2 | h2
        · exact absurd h1 (h.apc j hj hj3 b h2)
        · have := hfl j hj hj3 b h1; omega
      · rw [show A2 = some ⟨b, o, none⟩ from hA] at hA'; cases hA'; exact ⟨rfl, by simp⟩
    · obtain ⟨h1, h2, h3, h4⟩ := h.ok r hr
      have h1' : r.Ok wa := RSl.fr h1 ha (fun _ _ _ _ => id)
      refine ⟨RSl.tf h1' h4 ht hf.size, h2, h3, fun b o b' o' h0 hA hA' e => ?_⟩
      rcases hg with ⟨rfl, rfl⟩ | ⟨b2, e2, hb2⟩
      · obtain ⟨h5, h6⟩ := h4 b o b' o' h0 hA hA' e
        exact ⟨h5, by omega⟩
      · have h5 := hA2 b' o' hA'
        rw [e2] at h5; cases h5
        have := h1.2 b o hA h0; omega
/-- The grown slice is put behind the others. -/
theorem GS.put {G2 : Option Addr} {c2 : Nat} {g2 : Option Nat} {wa w2 : World} (h : GS w0 w ab A n c g i (k + 1) (40 * i + k) mA mc mg Rs G gc gg gs) (hk : k < 40) (hm : (⟨mA, n i + (k + 1), (grownI n i (k + 1)).map iv⟩ : RSl) ∈ Rs) (ha : Fr (fun _ => False) w wa)
    (hO : Ow w2 tInts 1 G2 (gs.length + 1) c2 (gs.map slcI ++ [.slice mA (n i + (k + 1)) mc]) g2) (hf : Fr (fun x => some x = gg) wa w2) (hg : g2 = gg ∨ ∃ b, g2 = some b ∧ wa.heap.size ≤ b) :
    GS w0 w2 ab A n c g i (k + 1) (40 * i + (k + 1)) mA mc mg Rs G2 c2 g2 (gs ++ [(mA, n i + (k + 1), mc)]) := by
  have hsz := ha.size
  have hlen := h.len
  have hga : ∀ b, g2 = some b → gg = some b ∨ w.heap.size ≤ b := fun b hb => by
    rcases hg with rfl | ⟨b', e, hb'⟩
    · exact .inl hb
    · rw [e] at hb; cases hb; exact .inr (by omega)
  refine ⟨h.hgd, (h.bl.fr ha id).fr hf (fun e => h.gab e.symm), fun j hj hj3 => ((h.fut j hj hj3).fr ha (fun _ _ => id)).fr hf (fun b hb e => (h.fut j hj hj3).apart_ty h.row (by decide) hb e.symm), (h.cur.fr ha (fun _ _ => id)).fr hf (fun b hb e => h.cur.apart_ty h.row (by decide) hb e.symm), h.apc, h.apo, fun r hr => ?_, ?_, fun e => ?_, by rw [List.length_append, hlen]; simp; omega, h.all, fun j r hr => ?_, (h.fr.trans (ha.weak _)).comp hf (fun b hb e => by have := h.new b e.symm; omega), fun b hb => ?_⟩
  · obtain ⟨h1, h2, h3, h4⟩ := h.ok r hr
    refine ⟨RSl.fr (RSl.fr h1 ha (fun _ _ _ _ => id)) hf (fun b o h0 hA e => h3 b o h0 hA e.symm), h2, fun b o h0 hA e => ?_, h4⟩
    rcases hga b e with h5 | h5
    · exact h3 b o h0 hA h5
    · have := h1.2 b o hA h0; omega
  · rw [List.length_append, List.map_append]; exact hO
  · rcases hga ab e with h5 | h5
    · exact h.gab h5
    · have := h.bl.lt; omega
  · by_cases hj : j < gs.length
    · rw [List.getElem?_append_left hj] at hr; exact h.gr j r hr
    · rw [List.getElem?_append_right (by omega)] at hr
      have hj0 : j - gs.length = 0 := by
        rcases Nat.eq_zero_or_pos (j - gs.length) with h0 | h0
        · exact h0
        · rw [List.getElem?_eq_none (by simp; omega)] at hr; cases hr
      rw [hj0] at hr
      simp at hr
      subst hr
      have hjd : j / 40 = i := by omega
      have hjm : j % 40 = k := by omega
      rw [hjd, hjm]
      exact ⟨rfl, hm⟩
  · rcases hga b hb with h5 | h5
    · exact h.new b h5
    · have := h.fr.size; omega
end
end Go.Proofs.Yteleakbbppbnnaa
