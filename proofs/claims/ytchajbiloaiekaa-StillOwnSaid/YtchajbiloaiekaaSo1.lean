/-
  StillOwn: three slices of bytes that are filled place by place (BFO) and grown (BGO, BGS).
-/
import Derived.Test.YtchajbiloaiekaaSlc
import Derived.Test.YtchajbiloaiekaaGrow
namespace Go.Proofs.Ytchajbiloaiekaa
open Go.RowKit
set_option linter.unusedVariables false

/-- Slice i is full of bytes of its own. -/
def fullB (n : Nat → Nat) (i : Nat) : List Nat := (List.range (n i)).map fun k => (40 * i + k) % 256
/-- .. and k bytes more behind them. -/
def grownB (n : Nat → Nat) (i k : Nat) : List Nat := fullB n i ++ (List.range k).map fun k => (90 * i + k + 1) % 256
theorem fullB_len (n : Nat → Nat) (i : Nat) : (fullB n i).length = n i := by simp [fullB]
theorem grownB_zero (n : Nat → Nat) (i : Nat) : grownB n i 0 = fullB n i := by simp [grownB]
theorem grownB_succ (n : Nat → Nat) (i k : Nat) : grownB n i (k + 1) = grownB n i k ++ [(90 * i + k + 1) % 256] := by
  simp [grownB, List.range_succ]
def slcI (r : Option Addr × Nat × Nat) : Value := .slice r.1 r.2.1 r.2.2
/-- r is not in block gg. -/
def RSl.Off (r : RSl) (gg : Option Nat) : Prop := ∀ b o, 0 < r.n → r.A = some ⟨b, o, none⟩ → gg ≠ some b
theorem RSl.Ok.ofOw {w : World} {e : TypeId} {A : Option Addr} {n c : Nat} {xs : List Value} {g : Option Nat} (h : Ow w e 1 A n c xs g) : RSl.Ok w ⟨A, n, xs⟩ := by
  refine ⟨h.sl, fun b o hA hn => ?_⟩
  have hn' : 0 < n := hn
  rcases h.2 with ⟨h0, h1, _⟩ | ⟨b', o', cur, hA', hg, hh, _⟩
  · omega
  · have : A = some ⟨b, o, none⟩ := hA
    rw [this] at hA'; cases hA'
    exact (Array.getElem?_eq_some_iff.1 hh).1
theorem Ow.at_g {w : World} {e : TypeId} {A : Option Addr} {n c : Nat} {xs : List Value} {g : Option Nat} (h : Ow w e 1 A n c xs g) {b o : Nat} (hA : A = some ⟨b, o, none⟩) : g = some b := by
  rcases h.2 with ⟨h0, h1, _⟩ | ⟨b', o', cur, hA', hg, hh, _⟩
  · rw [hA] at h0; cases h0
  · rw [hA] at hA'; cases hA'; exact hg
theorem Ow.apart_ty {w : World} {e e' : TypeId} {A A' : Option Addr} {n n' c c' : Nat} {xs ys : List Value} {g g' : Option Nat} (h : Ow w e 1 A n c xs g) (h' : Ow w e' 1 A' n' c' ys g') (hne : e ≠ e') {b : Nat} (hg : g = some b) : g' ≠ some b := by
  intro hg'
  rw [hg] at h; rw [hg'] at h'
  obtain ⟨c1, h1⟩ := h.ty
  obtain ⟨c2, h2⟩ := h'.ty
  exact hne (h1.same h2).2

/-- What is held between two slices. -/
structure BGO (w0 w : World) (ab : Nat) (A : Nat → Option Addr) (n c : Nat → Nat) (g : Nat → Option Nat) (i : Nat) (Rs : List RSl) (G : Option Addr) (gc : Nat) (gg : Option Nat) (gs : List (Option Addr × Nat × Nat)) : Prop where
  hgd : ∀ j j' b, j < 3 → j' < 3 → g j = some b → g j' = some b → j = j'
  bl : Bl w ab tBs #[.slice (A 0) (n 0) (c 0), .slice (A 1) (n 1) (c 1), .slice (A 2) (n 2) (c 2)]
  fut : ∀ j, i ≤ j → j < 3 → Ow w tU8 1 (A j) (n j) (c j) ((fullB n j).map bn) (g j)
  ok : ∀ r ∈ Rs, r.Ok w ∧ (∀ j, i ≤ j → j < 3 → r.Clear (A j) (n j)) ∧ r.Off gg
  row : Ow w tBs 1 G gs.length gc (gs.map slcI) gg
  gab : gg ≠ some ab
  len : gs.length = i
  all : ∀ j, j < i → (⟨A j, n j, (fullB n j).map bn⟩ : RSl) ∈ Rs
  gr : ∀ j r, gs[j]? = some r → r.2.1 = n j + 70 ∧ (⟨r.1, r.2.1, (grownB n j 70).map bn⟩ : RSl) ∈ Rs
  fr : Fr (fun b => ∃ j, j < 3 ∧ g j = some b) w0 w
  new : ∀ b, gg = some b → w0.heap.size ≤ b
/-- .. while slice i is grown: k marks behind it; gs.length = L. -/
structure BGS (w0 w : World) (ab : Nat) (A : Nat → Option Addr) (n c : Nat → Nat) (g : Nat → Option Nat) (i k : Nat) (mA : Option Addr) (mc : Nat) (mg : Option Nat) (Rs : List RSl) (G : Option Addr) (gc : Nat) (gg : Option Nat) (gs : List (Option Addr × Nat × Nat)) : Prop where
  hgd : ∀ j j' b, j < 3 → j' < 3 → g j = some b → g j' = some b → j = j'
  bl : Bl w ab tBs #[.slice (A 0) (n 0) (c 0), .slice (A 1) (n 1) (c 1), .slice (A 2) (n 2) (c 2)]
  fut : ∀ j, i < j → j < 3 → Ow w tU8 1 (A j) (n j) (c j) ((fullB n j).map bn) (g j)
  cur : Ow w tU8 1 mA (n i + k) mc ((grownB n i k).map bn) mg
  me : (⟨mA, n i + k, (grownB n i k).map bn⟩ : RSl) ∈ Rs
  apc : ∀ j, i < j → j < 3 → ∀ b, mg = some b → g j ≠ some b
  apo : ∀ b, mg = some b → (b < w0.heap.size → ∃ j, j < 3 ∧ g j = some b)
  ok : ∀ r ∈ Rs, r.Ok w ∧ (∀ j, i < j → j < 3 → r.Clear (A j) (n j)) ∧ r.Off gg ∧ r.Clear mA (n i + k)
  row : Ow w tBs 1 G gs.length gc (gs.map slcI) gg
  gab : gg ≠ some ab
  len : gs.length = i
  all : ∀ j, j ≤ i → (⟨A j, n j, (fullB n j).map bn⟩ : RSl) ∈ Rs
  gr : ∀ j r, gs[j]? = some r → r.2.1 = n j + 70 ∧ (⟨r.1, r.2.1, (grownB n j 70).map bn⟩ : RSl) ∈ Rs
  fr : Fr (fun b => ∃ j, j < 3 ∧ g j = some b) w0 w
  new : ∀ b, gg = some b → w0.heap.size ≤ b
section
variable {w0 w w' : World} {ab : Nat} {A : Nat → Option Addr} {n c : Nat → Nat} {g : Nat → Option Nat} {i k : Nat} {mA : Option Addr} {mc : Nat} {mg : Option Nat} {Rs : List RSl} {G : Option Addr} {gc : Nat} {gg : Option Nat} {gs : List (Option Addr × Nat × Nat)}
theorem BGO.start (h : BGO w0 w ab A n c g i Rs G gc gg gs) (hi : i < 3) : BGS w0 w ab A n c g i 0 (A i) (c i) (g i) (⟨A i, n i, (fullB n i).map bn⟩ :: Rs) G gc gg gs := by
  have hc := h.fut i (Nat.le_refl _) hi
  have hlt : ∀ b o, A i = some ⟨b, o, none⟩ → ∀ j, i < j → j < 3 → ∀ b' o', A j = some ⟨b', o', none⟩ → b ≠ b' := fun b o hA j hj hj3 b' o' hA' e => by
    subst e
    have := h.hgd i j b hi hj3 (hc.at_g hA) ((h.fut j (by omega) hj3).at_g hA'); omega
  refine ⟨h.hgd, h.bl, fun j hj hj3 => h.fut j (by omega) hj3, by simpa [grownB] using hc, by rw [grownB_zero]; exact List.mem_cons_self, fun j hj hj3 b hb hb' => by have := h.hgd i j b hi hj3 hb hb'; omega, fun b hb _ => ⟨i, hi, hb⟩, fun r hr => ?_, h.row, h.gab, h.len, fun j hj => ?_, fun j r hr => ?_, h.fr, h.new⟩
  · rcases List.mem_cons.1 hr with rfl | hr
    · refine ⟨RSl.Ok.ofOw hc, fun j hj hj3 b o b' o' h0 hA hA' e => absurd e (hlt b o hA j hj hj3 b' o' hA'), fun b o h0 hA e => ?_, fun b o b' o' h0 hA hA' e => ?_⟩
      · exact hc.apart_ty h.row (by decide) (hc.at_g hA) e
      · rw [show A i = some ⟨b, o, none⟩ from hA] at hA'; cases hA'; exact ⟨rfl, by simp⟩
    · obtain ⟨h1, h2, h3⟩ := h.ok r hr
      exact ⟨h1, fun j hj hj3 => h2 j (by omega) hj3, h3, h2 i (Nat.le_refl _) hi⟩
  · rcases Nat.lt_or_eq_of_le hj with hj | rfl
    · exact List.mem_cons_of_mem _ (h.all j hj)
    · exact List.mem_cons_self
  · obtain ⟨h1, h2⟩ := h.gr j r hr
    exact ⟨h1, List.mem_cons_of_mem _ h2⟩
/-- One mark more behind slice i. -/
theorem BGS.grow {A2 : Option Addr} {c2 : Nat} {g2 : Option Nat} {wa w2 : World} (h : BGS w0 w ab A n c g i k mA mc mg Rs G gc gg gs) (ha : Fr (fun _ => False) w wa)
    (hO : Ow w2 tU8 1 A2 (n i + k + 1) c2 ((grownB n i k).map bn ++ [bn ((90 * i + k + 1) % 256)]) g2) (hf : Fr (fun x => some x = mg) wa w2) (hg : g2 = mg ∧ A2 = mA ∨ ∃ b, g2 = some b ∧ wa.heap.size ≤ b) (ht : TF mA (n i + k) wa w2) :
    BGS w0 w2 ab A n c g i (k + 1) A2 c2 g2 (⟨A2, n i + (k + 1), (grownB n i (k + 1)).map bn⟩ :: Rs) G gc gg gs := by
  have hsz := ha.size
  have hcm := h.cur.fr ha (fun _ _ => id)
  have hO' : Ow w2 tU8 1 A2 (n i + (k + 1)) c2 ((grownB n i (k + 1)).map bn) g2 := by rw [grownB_succ, List.map_append]; exact hO
  have hmg : ∀ b, mg = some b → b < w.heap.size := h.cur.lt
  have hrow : Ow w2 tBs 1 G gs.length gc (gs.map slcI) gg := (h.row.fr ha (fun _ _ => id)).fr hf (fun b hb e => h.cur.apart_ty h.row (by decide) e.symm hb)
  have hfut : ∀ j, i < j → j < 3 → Ow w2 tU8 1 (A j) (n j) (c j) ((fullB n j).map bn) (g j) := fun j hj hj3 => ((h.fut j hj hj3).fr ha (fun _ _ => id)).fr hf (fun b hb e => h.apc j hj hj3 b e.symm hb)
  have hg2 : ∀ b, g2 = some b → mg = some b ∨ w.heap.size ≤ b := fun b hb => by
    rcases hg with ⟨rfl, _⟩ | ⟨b', e, hb'⟩
    · exact .inl hb
    · rw [e] at hb; cases hb; exact .inr (by omega)
  have hA2 : ∀ b o, A2 = some ⟨b, o, none⟩ → g2 = some b := fun b o hA => hO'.at_g hA
  have hfl : ∀ j, i < j → j < 3 → ∀ b, g j = some b → b < w.heap.size := fun j hj hj3 => (h.fut j hj hj3).lt
  refine ⟨h.hgd, (h.bl.fr ha id).fr hf (fun e => ?_), hfut, hO', List.mem_cons_self, fun j hj hj3 b hb hb' => ?_, fun b hb hlt => ?_, fun r hr => ?_, hrow, h.gab, h.len, fun j hj => List.mem_cons_of_mem _ (h.all j hj), fun j r hr => ⟨(h.gr j r hr).1, List.mem_cons_of_mem _ (h.gr j r hr).2⟩, (h.fr.trans (ha.weak _)).comp hf (fun b hb e => h.apo b e.symm hb), h.new⟩
  · have hc := h.cur
    rw [← e] at hc
    obtain ⟨cs, hcs⟩ := hc.ty
    exact absurd (h.bl.same hcs).2 (by decide)
  · rcases hg2 b hb with h1 | h1
    · exact h.apc j hj hj3 b h1 hb'
    · have := hfl j hj hj3 b hb'; omega
  · rcases hg2 b hb with h1 | h1
    · exact h.apo b h1 hlt
    · have := h.fr.size; omega
  · rcases List.mem_cons.1 hr with rfl | hr
    · refine ⟨RSl.Ok.ofOw hO', fun j hj hj3 b o b' o' h0 hA hA' e => ?_, fun b o h0 hA e => hO'.apart_ty hrow (by decide) (hA2 b o hA) e, fun b o b' o' h0 hA hA' e => ?_⟩
      · subst e
        have h1 := (h.fut j hj hj3).at_g hA'
        rcases hg2 b (hA2 b o hA) with h2 | h2
        · exact absurd h1 (h.apc j hj hj3 b h2)
        · have := hfl j hj hj3 b h1; omega
      · rw [show A2 = some ⟨b, o, none⟩ from hA] at hA'; cases hA'; exact ⟨rfl, by simp⟩
    · obtain ⟨h1, h2, h3, h4⟩ := h.ok r hr
      have h1' : r.Ok wa := RSl.fr h1 ha (fun _ _ _ _ => id)
      refine ⟨RSl.tf h1' h4 ht hf.size, h2, h3, fun b o b' o' h0 hA hA' e => ?_⟩
      rcases hg with ⟨rfl, rfl⟩ | ⟨b2, e2, hb2⟩
      · obtain ⟨h5, h6⟩ := h4 b o b' o' h0 hA hA' e
        exact ⟨h5, by omega⟩
      · have h5 := hA2 b' o' hA'
        rw [e2] at h5; cases h5
        have := h1.2 b o hA h0; omega
/-- The grown slice is put behind the others. -/
theorem BGS.put {G2 : Option Addr} {c2 : Nat} {g2 : Option Nat} {wa w2 : World} (h : BGS w0 w ab A n c g i 70 mA mc mg Rs G gc gg gs) (ha : Fr (fun _ => False) w wa)
    (hO : Ow w2 tBs 1 G2 (gs.length + 1) c2 (gs.map slcI ++ [.slice mA (n i + 70) mc]) g2) (hf : Fr (fun x => some x = gg) wa w2) (hg : g2 = gg ∨ ∃ b, g2 = some b ∧ wa.heap.size ≤ b) :
    BGO w0 w2 ab A n c g (i + 1) Rs G2 c2 g2 (gs ++ [(mA, n i + 70, mc)]) := by
  have hsz := ha.size
  have hlen := h.len
  have hga : ∀ b, g2 = some b → gg = some b ∨ w.heap.size ≤ b := fun b hb => by
    rcases hg with rfl | ⟨b', e, hb'⟩
    · exact .inl hb
    · rw [e] at hb; cases hb; exact .inr (by omega)
  refine ⟨h.hgd, (h.bl.fr ha id).fr hf (fun e => h.gab e.symm), fun j hj hj3 => ((h.fut j hj hj3).fr ha (fun _ _ => id)).fr hf (fun b hb e => (h.fut j hj hj3).apart_ty h.row (by decide) hb e.symm), fun r hr => ?_, ?_, fun e => ?_, by rw [List.length_append, hlen]; rfl, fun j hj => h.all j (by omega), fun j r hr => ?_, (h.fr.trans (ha.weak _)).comp hf (fun b hb e => by have := h.new b e.symm; omega), fun b hb => ?_⟩
  · obtain ⟨h1, h2, h3, h4⟩ := h.ok r hr
    refine ⟨RSl.fr (RSl.fr h1 ha (fun _ _ _ _ => id)) hf (fun b o h0 hA e => h3 b o h0 hA e.symm), fun j hj hj3 => h2 j hj hj3, fun b o h0 hA e => ?_⟩
    rcases hga b e with h5 | h5
    · exact h3 b o h0 hA h5
    · have := h1.2 b o hA h0; omega
  · rw [List.length_append, List.map_append]; exact hO
  · rcases hga ab e with h5 | h5
    · exact h.gab h5
    · have := h.bl.lt; omega
  · by_cases hj : j < gs.length
    · rw [List.getElem?_append_left hj] at hr; exact h.gr j r hr
    · rw [List.getElem?_append_right (by omega)] at hr
      have hj0 : j - gs.length = 0 := by
        rcases Nat.eq_zero_or_pos (j - gs.length) with h0 | h0
        · exact h0
        · rw [List.getElem?_eq_none (by simp; omega)] at hr; cases hr
      rw [hj0] at hr
      simp at hr
      subst hr
      obtain rfl : j = i := by omega
      exact ⟨rfl, h.me⟩
  · rcases hga b hb with h5 | h5
    · exact h.new b h5
    · have := h.fr.size; omega
end
structure BFO (w0 w : World) (ab : Nat) (A : Nat → Option Addr) (n c : Nat → Nat) (g : Nat → Option Nat) (V : Nat → List Nat) : Prop where
  hgd : ∀ j j' b, j < 3 → j' < 3 → g j = some b → g j' = some b → j = j'
  bl : Bl w ab tBs #[.slice (A 0) (n 0) (c 0), .slice (A 1) (n 1) (c 1), .slice (A 2) (n 2) (c 2)]
  ow : ∀ j, j < 3 → Ow w tU8 1 (A j) (n j) (c j) ((V j).map bn) (g j)
  fr : Fr (fun b => ∃ j, j < 3 ∧ g j = some b) w0 w
section
variable {w0 w : World} {ab : Nat} {A : Nat → Option Addr} {n c : Nat → Nat} {g : Nat → Option Nat} {V : Nat → List Nat}
theorem bl3 {w : World} {ab : Nat} {t : TypeId} {A : Nat → Option Addr} {n c : Nat → Nat} (h : Bl w ab t #[.slice (A 0) (n 0) (c 0), .slice (A 1) (n 1) (c 1), .slice (A 2) (n 2) (c 2)]) {i : Nat} (hi : i < 3) :
    w.cell? ⟨ab, i, none⟩ = some (.slice (A i) (n i) (c i)) := by
  match i, hi with
  | 0, _ => exact h.cell' rfl
  | 1, _ => exact h.cell' rfl
  | 2, _ => exact h.cell' rfl
theorem BFO.nab (h : BFO w0 w ab A n c g V) {i : Nat} (hi : i < 3) : g i ≠ some ab := by
  intro e
  have h1 := h.ow i hi
  rw [e] at h1
  obtain ⟨cs, hc⟩ := h1.ty
  exact absurd (h.bl.same hc).2 (by decide)
theorem BFO.put (h : BFO w0 w ab A n c g V) {i k b o : Nat} (hi : i < 3) (hk : k < n i) (hA : A i = some ⟨b, o, none⟩) (v : Nat) :
    BFO w0 (w.setCell ⟨b, o + k, none⟩ (bn v)) ab A n c g (fun j => if j = i then (V i).set k v else V j) := by
  have hi' := h.ow i hi
  have hb : g i = some b := hi'.at_g hA
  have hF : Fr (· = b) w (w.setCell ⟨b, o + k, none⟩ (bn v)) := (Fr.refl _ _).setAt _
  refine ⟨h.hgd, h.bl.fr hF (fun e => h.nab hi (by rw [hb, e])), fun j hj => ?_, h.fr.trans (hF.mono fun x _ e => ⟨i, hi, by rw [hb, e]⟩)⟩
  by_cases hji : j = i
  · subst hji
    rw [if_pos rfl, List.map_set]
    have h2 := hA ▸ hi'
    have h3 := h2.put (j := k) (by omega) (bn v)
    rw [← hA] at h3
    exact h3
  · rw [if_neg hji]
    exact (h.ow j hj).fr hF (fun b' e e' => hji (h.hgd j i b hj hi (by rw [e, e']) hb))
theorem BFO.len (h : BFO w0 w ab A n c g V) {j : Nat} (hj : j < 3) : (V j).length = n j := by
  have := (h.ow j hj).1; simpa using this
/-- All of them are full: they can be grown. -/
theorem BFO.go (h : BFO w0 w ab A n c g V) (hV : ∀ j, j < 3 → V j = fullB n j) : BGO w0 w ab A n c g 0 [] none 0 none [] :=
  ⟨h.hgd, h.bl, fun j _ hj => by rw [← hV j hj]; exact h.ow j hj, fun r hr => (nomatch hr), Ow.nil_ _ _ _, (fun e => (nomatch e)), rfl, (fun j hj => absurd hj (by omega)), (fun j r hr => (by simp at hr)), h.fr, fun b e => nomatch e⟩
end
/-- k bytes are written. -/
def FilledB (n : Nat → Nat) (V : Nat → List Nat) (i k : Nat) : Prop := (∀ j, j < i → V j = fullB n j) ∧ (V i).take k = (List.range k).map fun k => (40 * i + k) % 256
theorem FilledB.step {n : Nat → Nat} {V : Nat → List Nat} {i k : Nat} (h : FilledB n V i k) (hk : k < (V i).length) : FilledB n (fun j => if j = i then (V i).set k ((40 * i + k) % 256) else V j) i (k + 1) := by
  refine ⟨fun j hj => ?_, ?_⟩
  · show (if j = i then _ else _) = _
    rw [if_neg (by omega)]; exact h.1 j hj
  · show (if i = i then _ else _ : List Nat).take (k + 1) = _
    rw [if_pos rfl, List.take_add_one, List.take_set_of_le (Nat.le_refl _), h.2, List.getElem?_set_self hk, List.range_succ]; simp
theorem FilledB.done {n : Nat → Nat} {V : Nat → List Nat} {i k : Nat} (h : FilledB n V i k) (hk : (V i).length = n i) (hn : k = n i) : FilledB n V (i + 1) 0 := by
  refine ⟨fun j hj => ?_, by simp⟩
  rcases Nat.lt_or_eq_of_le (Nat.lt_succ_iff.1 hj) with h1 | rfl
  · exact h.1 j h1
  · have := h.2
    rw [List.take_of_length_le (by omega), hn] at this
    exact this
theorem get_fullB (n : Nat → Nat) (i k : Nat) (h : k < n i) : ((fullB n i).map bn)[k]? = some (bn ((40 * i + k) % 256)) := by
  simp [fullB, h]
theorem get_grownB (n : Nat → Nat) (i m k : Nat) (h : ¬ k < n i) (h2 : k < n i + m) : ((grownB n i m).map bn)[k]? = some (bn ((90 * i + (k - n i) + 1) % 256)) := by
  have h3 : k - n i < m := by omega
  unfold grownB
  rw [List.map_append, List.getElem?_append_right (by rw [List.length_map, fullB_len]; omega), List.length_map, fullB_len]
  simp [h3]
theorem wrap8 (x : Nat) : IntKind.u8.wrap (x : Int) = ((x % 256 : Nat) : Int) := by
  unfold IntKind.wrap; simp [IntKind.bits, IntKind.signed]
section
variable {w0 w w' : World} {q p fr n t0 t1 N B : Nat} {F : Nat → Prop} {s : DS}
/-- Blocks of the call's own are turned. -/
theorem KW.away {S : Nat → Prop} (h : KW w0 w q p fr n t0 t1 N F s B) (hf : Fr S w w') (hS : ∀ b, S b → ¬ F b ∧ q ≠ b ∧ w0.heap.size ≤ b) : KW w0 w' q p fr n t0 t1 N F s B :=
  ⟨h.di.fr hf (fun k hk e => (hS k e).1 hk), h.st.fr hf (fun e => (hS q e).2.1 rfl), h.nF, h.nq, h.fz, h.row, h.lt, h.fr_.comp hf (fun i hi e => by have := (hS i e).2.2; omega), h.hq, h.wr, h.sy⟩
end
end Go.Proofs.Ytchajbiloaiekaa
