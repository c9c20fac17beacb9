/-
  DrrTime: the book and the server in memory, between the script's steps.
-/
import Derived.Test.YtanfhmebjgmdpaaDt7
namespace Go.Proofs.Ytanfhmebjgmdpaa.Qj
open Go.RowKit
set_option linter.unusedVariables false
set_option linter.unusedSimpArgs false
structure TI (w : World) (pb yb d L n room : Nat) (quantum : Int) (m : Nat) (b : BK) (p : BL) (s : DS X) (W : World) : Prop where
  hp : p.pb = pb
  bk : BkAt W p b
  dr : DrrAt W d L 7 s
  bt : Btw n quantum b s
  nb : s.busy = false
  rm : s.room = room
  y : Bl W yb tShape #[.int .i64 (n : Int), .int .i64 (room : Int), .int .i64 quantum]
  fr : Fr (fun _ => False) w W
  ba : ∀ a ∈ b.added, a ≤ m
  r0 : 0 ≤ b.rounds
  r1 : b.rounds ≤ m
  fb : ∀ x, bfoot p x → w.heap.size ≤ x
  fd : ∀ x, drfoot d L s x → w.heap.size ≤ x
section
variable {w W W' : World} {pb yb d L n room m : Nat} {quantum : Int} {b : BK} {p : BL} {s : DS X}
theorem TI.quiet (h : TI w pb yb d L n room quantum m b p s W) (hf : Fr (fun _ => False) W W') : TI w pb yb d L n room quantum m b p s W' :=
  ⟨h.hp, h.bk.fr hf (fun _ _ => id), h.dr.quiet hf, h.bt, h.nb, h.rm, h.y.fr hf id, h.fr.trans hf, h.ba, h.r0, h.r1, h.fb, h.fd⟩
theorem TI.more (h : TI w pb yb d L n room quantum m b p s W) : TI w pb yb d L n room quantum (m + 1) b p s W :=
  ⟨h.hp, h.bk, h.dr, h.bt, h.nb, h.rm, h.y, h.fr, fun a ha => Nat.le_succ_of_le (h.ba a ha), h.r0, by have := h.r1; omega, h.fb, h.fd⟩
theorem TI.yb_bk (h : TI w pb yb d L n room quantum m b p s W) : ¬ bfoot p yb := fun e => by
  obtain ⟨t, cs, hc, ht⟩ := h.bk.ty e
  have := (h.y.same hc).2
  subst this
  revert ht; decide
theorem TI.yb_dr (h : TI w pb yb d L n room quantum m b p s W) : ¬ drfoot d L s yb := dr_ne h.dr h.y (by simp)
theorem TI.whole (h : TI w pb yb d L n room quantum m b p s W) (ho : WholeOut W p b d L n quantum s W') : ∃ b' s', TI w pb yb d L n room quantum (m + 1) b' p s' W' := by
  obtain ⟨b', s', h1, h2, h3, h4, h5, h6, h7, h8, h9⟩ := ho
  refine ⟨b', s', h.hp, h1, h2, h3, h4, h5.1.trans h.rm, h.y.fr h9 (fun e => e.elim h.yb_bk h.yb_dr), h.fr.comp h9 fun x hx e => ?_, fun a ha => ?_, ?_, ?_, h.fb, fun x hx => h.fd x ((h5.2.2.2 d L x).1 hx)⟩
  · rcases e with e | e
    · have := h.fb x e; omega
    · have := h.fd x e; omega
  · rw [h6] at ha; exact Nat.le_succ_of_le (h.ba a ha)
  · rw [h8]; have := h.r0; omega
  · rw [h8]; have := h.r1; omega
theorem TI.adds {q : Nat} {l : LN X} {x : X} (h : TI w pb yb d L n room quantum m b p s W) (ho : AddOut W d L 7 s q l x W') : BkAt W' p b :=
  h.bk.fr ho.choose_spec.2.1 fun y hy => bk_dr h.dr h.bk hy
theorem put_foot {i : Nat} {l l' : LN X} (hl : s.lines[i]? = some l) (hp : l'.p = l.p) {y : Nat} (h : drfoot d L (s.put i l') y) : drfoot d L s y ∨ some y = l'.g := by
  have hi : i < s.lines.length := (List.getElem?_eq_some_iff.1 hl).1
  rcases h with rfl | rfl | ⟨b, hb, hx⟩
  · exact .inl (.inl rfl)
  · exact .inl (.inr (.inl rfl))
  · obtain ⟨k, hk⟩ := List.mem_iff_getElem?.1 hb
    have h2 : (s.lines.set i l')[k]? = some b := hk
    by_cases hki : k = i
    · subst hki
      rw [List.getElem?_set_self hi] at h2
      cases h2
      rcases hx with hx | hx
      · exact .inl (.inr (.inr ⟨l, List.mem_of_getElem? hl, .inl (hx.trans hp)⟩))
      · exact .inr hx
    · rw [List.getElem?_set_ne (fun e => hki e.symm)] at h2
      exact .inl (.inr (.inr ⟨b, List.mem_of_getElem? h2, hx⟩))
theorem TI.add {W2 : World} {q ad : Nat} {l : LN X} {un : List Int} {c : Int} (h : TI w pb yb d L n room quantum m b p s W) (hl : s.lines[q]? = some l) (ha : b.added[q]? = some ad) (hu : b.until_[q]? = some un) (ho : AddOut W d L 7 s q l (((ad : Int), c), c) W')
    (h2 : AddedOut W' p b q ad un (b.rounds + l.things.length + 1) W2) : ∃ b' p' s', TI w pb yb d L n room quantum (m + 1) b' p' s' W2 := by
  have hbk := h.adds ho
  obtain ⟨g', hat, hf, hg⟩ := ho
  have hy := h.y.fr hf h.yb_dr
  obtain ⟨p', e1, hbk2, hf2, hfo⟩ := h2
  have hyb : ¬ bfoot p yb := h.yb_bk
  have had := h.ba ad (List.mem_of_getElem? ha)
  refine ⟨_, p', _, e1.trans h.hp, hbk2, hat.fr hf2 fun x hx e => bk_dr hat hbk e hx, h.bt.add hl ha hu c g', h.nb, h.rm, hy.fr hf2 hyb, (h.fr.comp hf fun x hx e => by have := h.fd x e; omega).comp hf2 fun x hx e => by have := h.fb x e; omega, fun a ha' => ?_, h.r0, by have := h.r1; show b.rounds ≤ _; omega, fun x hx => ?_, fun x hx => ?_⟩
  · have ha2 : a ∈ b.added.set q (ad + 1) := ha'
    rcases List.mem_or_eq_of_mem_set ha2 with ha2 | ha2
    · exact Nat.le_succ_of_le (h.ba a ha2)
    · omega
  · rcases Nat.lt_or_ge x W'.heap.size with hx2 | hx2
    · exact h.fb x (hfo x hx2 hx)
    · have := h.fr.size; have := hf.size; omega
  · rcases put_foot (l' := { l with things := l.things ++ [(((ad : Int), c), c)], g := g' }) hl rfl hx with hx | hx
    · exact h.fd x hx
    · rcases hg with e | ⟨y, e, hy⟩
      · exact h.fd x (.inr (.inr ⟨l, List.mem_of_getElem? hl, .inr (hx.trans e)⟩))
      · have h5 : some x = some y := hx.trans e
        cases h5
        have := h.fr.size; omega
end
/-- A book under making: so many of each. -/
structure BRaw (w : World) (pb : Nat) (A S U : Option Addr) (ca cs cu : Nat) (gA gS gU : Option Nat) (a s u : Nat) (W : World) : Prop where
  bl : Bl W pb tBook #[.slice A a ca, .slice S s cs, .slice U u cu, .int .i64 0]
  oa : Ow W tInt 1 A a ca (List.replicate a (.int .i64 0)) gA
  os : Ow W tInt 1 S s cs (List.replicate s (.int .i64 0)) gS
  ou : Ow W tInts 1 U u cu (List.replicate u (.slice none 0 0)) gU
  ap : ∀ x, gA = some x → gS ≠ some x
  lo : ∀ x, x = pb ∨ some x = gA ∨ some x = gS ∨ some x = gU → w.heap.size ≤ x
section
variable {w W W1 : World} {pb : Nat} {A S U : Option Addr} {ca cs cu : Nat} {gA gS gU : Option Nat} {a s u : Nat}
theorem BRaw.ty (h : BRaw w pb A S U ca cs cu gA gS gU a s u W) {x : Nat} (hx : x = pb ∨ some x = gA ∨ some x = gS ∨ some x = gU) : ∃ t c, Bl W x t c ∧ (t = tBook ∨ t = tInt ∨ t = tInts) := by
  rcases hx with rfl | e | e | e
  · exact ⟨_, _, h.bl, .inl rfl⟩
  · obtain ⟨c, hc⟩ := Ow.tyAt h.oa e.symm; exact ⟨_, _, hc, .inr (.inl rfl)⟩
  · obtain ⟨c, hc⟩ := Ow.tyAt h.os e.symm; exact ⟨_, _, hc, .inr (.inl rfl)⟩
  · obtain ⟨c, hc⟩ := Ow.tyAt h.ou e.symm; exact ⟨_, _, hc, .inr (.inr rfl)⟩
theorem BRaw.stepA (h : BRaw w pb A S U ca cs cu gA gS gU a s u W) {A2 : Option Addr} {c2 : Nat} {g2 : Option Nat} (hO : Ow W1 tInt 1 A2 (a + 1) c2 (List.replicate (a + 1) (.int .i64 0)) g2) (hf : Fr (fun x => some x = gA) W W1) (hg : g2 = gA ∨ ∃ y, g2 = some y ∧ W.heap.size ≤ y) (hw : w.heap.size ≤ W.heap.size) :
    W1.frozen? ⟨pb, 0, none⟩ = false ∧ (∃ v, W1.cell? ⟨pb, 0, none⟩ = some v) ∧ BRaw w pb A2 S U c2 cs cu g2 gS gU (a + 1) s u (W1.setCell ⟨pb, 0, none⟩ (.slice A2 (a + 1) c2)) ∧ Fr (fun x => x = pb ∨ some x = gA) W (W1.setCell ⟨pb, 0, none⟩ (.slice A2 (a + 1) c2)) := by
  have hF2 : Fr (fun x => x = pb) W1 (W1.setCell ⟨pb, 0, none⟩ (.slice A2 (a + 1) c2)) := (Fr.refl _ _).setAt _
  have hF : Fr (fun x => x = pb ∨ some x = gA) W (W1.setCell ⟨pb, 0, none⟩ (.slice A2 (a + 1) c2)) := (hf.mono fun x _ e => .inr e).trans (hF2.mono fun x _ e => .inl e)
  have hgt : ∀ x, some x = gA → ∃ c, Bl W x tInt c := fun x e => Ow.tyAt h.oa e.symm
  have hbl := h.bl.fr hf (fun e => by obtain ⟨c, hc⟩ := hgt pb e; exact h.bl.apart hc (by decide) rfl)
  have hgn : ∀ x, g2 = some x → x < W.heap.size → gA = some x := fun x e hx => by
    rcases hg with e2 | ⟨z, e2, hz⟩
    · rw [← e2]; exact e
    · rw [e2] at e; cases e; omega
  refine ⟨hbl.free 0, ⟨_, hbl.cell' rfl⟩, ⟨hbl.set 0 _, hO.fr hF2 fun x e e' => ?_, h.os.fr hF fun x e e' => ?_, h.ou.fr hF fun x e e' => ?_, fun x e e' => ?_, fun x hx => ?_⟩, hF⟩
  · obtain ⟨c, hc⟩ := Ow.tyAt hO e
    exact hc.apart hbl (by decide) e'
  · rcases e' with e' | e'
    · obtain ⟨c, hc⟩ := Ow.tyAt h.os e; exact hc.apart h.bl (by decide) e'
    · exact h.ap x e'.symm e
  · obtain ⟨c, hc⟩ := Ow.tyAt h.ou e
    rcases e' with e' | e'
    · exact hc.apart h.bl (by decide) e'
    · obtain ⟨c', hc'⟩ := hgt x e'; exact hc.apart hc' (by decide) rfl
  · exact h.ap x (hgn x e (h.os.lt x e')) e'
  · rcases hx with e | e | e | e
    · exact h.lo x (.inl e)
    · rcases Nat.lt_or_ge x W.heap.size with hx | hx
      · exact h.lo x (.inr (.inl (hgn x e.symm hx).symm))
      · omega
    · exact h.lo x (.inr (.inr (.inl e)))
    · exact h.lo x (.inr (.inr (.inr e)))
theorem BRaw.stepS (h : BRaw w pb A S U ca cs cu gA gS gU a s u W) {A2 : Option Addr} {c2 : Nat} {g2 : Option Nat} (hO : Ow W1 tInt 1 A2 (s + 1) c2 (List.replicate (s + 1) (.int .i64 0)) g2) (hf : Fr (fun x => some x = gS) W W1) (hg : g2 = gS ∨ ∃ y, g2 = some y ∧ W.heap.size ≤ y) (hw : w.heap.size ≤ W.heap.size) :
    W1.frozen? ⟨pb, 1, none⟩ = false ∧ (∃ v, W1.cell? ⟨pb, 1, none⟩ = some v) ∧ BRaw w pb A A2 U ca c2 cu gA g2 gU a (s + 1) u (W1.setCell ⟨pb, 1, none⟩ (.slice A2 (s + 1) c2)) ∧ Fr (fun x => x = pb ∨ some x = gS) W (W1.setCell ⟨pb, 1, none⟩ (.slice A2 (s + 1) c2)) := by
  have hF2 : Fr (fun x => x = pb) W1 (W1.setCell ⟨pb, 1, none⟩ (.slice A2 (s + 1) c2)) := (Fr.refl _ _).setAt _
  have hF : Fr (fun x => x = pb ∨ some x = gS) W (W1.setCell ⟨pb, 1, none⟩ (.slice A2 (s + 1) c2)) := (hf.mono fun x _ e => .inr e).trans (hF2.mono fun x _ e => .inl e)
  have hgt : ∀ x, some x = gS → ∃ c, Bl W x tInt c := fun x e => Ow.tyAt h.os e.symm
  have hbl := h.bl.fr hf (fun e => by obtain ⟨c, hc⟩ := hgt pb e; exact h.bl.apart hc (by decide) rfl)
  have hgn : ∀ x, g2 = some x → x < W.heap.size → gS = some x := fun x e hx => by
    rcases hg with e2 | ⟨z, e2, hz⟩
    · rw [← e2]; exact e
    · rw [e2] at e; cases e; omega
  refine ⟨hbl.free 1, ⟨_, hbl.cell' rfl⟩, ⟨hbl.set 1 _, h.oa.fr hF fun x e e' => ?_, hO.fr hF2 fun x e e' => ?_, h.ou.fr hF fun x e e' => ?_, fun x e e' => ?_, fun x hx => ?_⟩, hF⟩
  · rcases e' with e' | e'
    · obtain ⟨c, hc⟩ := Ow.tyAt h.oa e; exact hc.apart h.bl (by decide) e'
    · exact h.ap x e e'.symm
  · obtain ⟨c, hc⟩ := Ow.tyAt hO e
    exact hc.apart hbl (by decide) e'
  · obtain ⟨c, hc⟩ := Ow.tyAt h.ou e
    rcases e' with e' | e'
    · exact hc.apart h.bl (by decide) e'
    · obtain ⟨c', hc'⟩ := hgt x e'; exact hc.apart hc' (by decide) rfl
  · exact h.ap x e (hgn x e' (h.oa.lt x e))
  · rcases hx with e | e | e | e
    · exact h.lo x (.inl e)
    · exact h.lo x (.inr (.inl e))
    · rcases Nat.lt_or_ge x W.heap.size with hx | hx
      · exact h.lo x (.inr (.inr (.inl (hgn x e.symm hx).symm)))
      · omega
    · exact h.lo x (.inr (.inr (.inr e)))
theorem BRaw.stepU (h : BRaw w pb A S U ca cs cu gA gS gU a s u W) {A2 : Option Addr} {c2 : Nat} {g2 : Option Nat} (hO : Ow W1 tInts 1 A2 (u + 1) c2 (List.replicate (u + 1) (.slice none 0 0)) g2) (hf : Fr (fun x => some x = gU) W W1) (hg : g2 = gU ∨ ∃ y, g2 = some y ∧ W.heap.size ≤ y) (hw : w.heap.size ≤ W.heap.size) :
    W1.frozen? ⟨pb, 2, none⟩ = false ∧ (∃ v, W1.cell? ⟨pb, 2, none⟩ = some v) ∧ BRaw w pb A S A2 ca cs c2 gA gS g2 a s (u + 1) (W1.setCell ⟨pb, 2, none⟩ (.slice A2 (u + 1) c2)) ∧ Fr (fun x => x = pb ∨ some x = gU) W (W1.setCell ⟨pb, 2, none⟩ (.slice A2 (u + 1) c2)) := by
  have hF2 : Fr (fun x => x = pb) W1 (W1.setCell ⟨pb, 2, none⟩ (.slice A2 (u + 1) c2)) := (Fr.refl _ _).setAt _
  have hF : Fr (fun x => x = pb ∨ some x = gU) W (W1.setCell ⟨pb, 2, none⟩ (.slice A2 (u + 1) c2)) := (hf.mono fun x _ e => .inr e).trans (hF2.mono fun x _ e => .inl e)
  have hgt : ∀ x, some x = gU → ∃ c, Bl W x tInts c := fun x e => Ow.tyAt h.ou e.symm
  have hbl := h.bl.fr hf (fun e => by obtain ⟨c, hc⟩ := hgt pb e; exact h.bl.apart hc (by decide) rfl)
  have hgn : ∀ x, g2 = some x → x < W.heap.size → gU = some x := fun x e hx => by
    rcases hg with e2 | ⟨z, e2, hz⟩
    · rw [← e2]; exact e
    · rw [e2] at e; cases e; omega
  have hne : ∀ {x c}, Bl W x tInt c → ¬ (x = pb ∨ some x = gU) := fun {x c} hc e => by
    rcases e with e | e
    · exact hc.apart h.bl (by decide) e
    · obtain ⟨c', hc'⟩ := hgt x e; exact hc.apart hc' (by decide) rfl
  refine ⟨hbl.free 2, ⟨_, hbl.cell' rfl⟩, ⟨hbl.set 2 _, h.oa.fr hF fun x e e' => ?_, h.os.fr hF fun x e e' => ?_, hO.fr hF2 fun x e e' => ?_, h.ap, fun x hx => ?_⟩, hF⟩
  · obtain ⟨c, hc⟩ := Ow.tyAt h.oa e; exact hne hc e'
  · obtain ⟨c, hc⟩ := Ow.tyAt h.os e; exact hne hc e'
  · obtain ⟨c, hc⟩ := Ow.tyAt hO e
    exact hc.apart hbl (by decide) e'
  · rcases hx with e | e | e | e
    · exact h.lo x (.inl e)
    · exact h.lo x (.inr (.inl e))
    · exact h.lo x (.inr (.inr (.inl e)))
    · rcases Nat.lt_or_ge x W.heap.size with hx | hx
      · exact h.lo x (.inr (.inr (.inr (hgn x e.symm hx).symm)))
      · omega
/-- What stands besides the book. -/
def BW (w : World) (d L yb n room q : Nat) (s : DS X) (W : World) : Prop := DrrAt W d L 7 s ∧ Bl W yb tShape #[.int .i64 (n : Int), .int .i64 (room : Int), .int .i64 (q : Int)] ∧ Fr (fun _ => False) w W
theorem BRaw.keep {W' : World} {d L yb n room q : Nat} {ds : DS X} (h : BRaw w pb A S U ca cs cu gA gS gU a s u W) (hB : BW w d L yb n room q ds W) (hf : Fr (fun x => x = pb ∨ some x = gA ∨ some x = gS ∨ some x = gU) W W') : BW w d L yb n room q ds W' := by
  obtain ⟨hat, hy, hfr⟩ := hB
  refine ⟨hat.fr hf fun x hx e => ?_, hy.fr hf fun e => ?_, hfr.comp hf fun x hx e => by have := h.lo x e; omega⟩
  · obtain ⟨t, cs', hc, ht⟩ := h.ty e
    exact dr_ne hat hc (by rcases ht with rfl | rfl | rfl <;> simp) hx
  · obtain ⟨t, cs', hc, ht⟩ := h.ty e
    have := (hc.same hy).2
    subst this
    revert ht; decide
def b0 (n : Nat) : BK := ⟨List.replicate n 0, List.replicate n 0, List.replicate n [], 0⟩
theorem zipR (n : Nat) : List.zipWith urow (List.replicate n (⟨none, 0, none⟩ : BRow)) (List.replicate n []) = List.replicate n (.slice none 0 0) := by
  rw [List.zipWith_replicate]; simp [urow]
/-- The book is made. -/
theorem BRaw.done {n : Nat} (h : BRaw w pb A S U ca cs cu gA gS gU n n n W) : BkAt W ⟨pb, A, S, U, ca, cs, cu, gA, gS, gU, List.replicate n ⟨none, 0, none⟩⟩ (b0 n) := by
  have e0 : (List.replicate n (0 : Nat)).map nv = List.replicate n (.int .i64 0) := by rw [List.map_replicate]; rfl
  refine ⟨?_, by simp [b0], by simp [b0], by simp [b0], ?_, ?_, ?_, fun i r v hr hv => ?_, h.ap, fun i r x hr hx => ?_, fun i j r r' x hij hr hr' hx => ?_⟩
  · simpa [b0] using h.bl
  · simpa [b0, e0] using h.oa
  · simpa [b0, e0] using h.os
  · have := h.ou
    show Ow W tInts 1 U (b0 n).added.length cu (List.zipWith urow (List.replicate n ⟨none, 0, none⟩) (List.replicate n [])) gU
    rw [zipR]
    simpa [b0] using this
  · have h1 : r = ⟨none, 0, none⟩ := List.eq_of_mem_replicate (List.mem_of_getElem? hr)
    have h2 : v = [] := List.eq_of_mem_replicate (List.mem_of_getElem? hv)
    subst h1 h2
    exact Ow.nil_ _ _ _
  · have h1 : r = ⟨none, 0, none⟩ := List.eq_of_mem_replicate (List.mem_of_getElem? hr)
    subst h1; cases hx
  · have h1 : r = ⟨none, 0, none⟩ := List.eq_of_mem_replicate (List.mem_of_getElem? hr)
    subst h1; cases hx
end
theorem Btw.zero {n : Nat} {s : DS X} (hn : s.lines.length = n) (he : ∀ l ∈ s.lines, l.things = [] ∧ l.df = 0) : Btw n (s.quantum : Int) (b0 n) s := by
  refine ⟨hn, by simp [b0], by simp [b0], by simp [b0], rfl, fun q l ad sv un h1 h2 h3 h4 => ?_⟩
  obtain ⟨e1, e2⟩ := he l (List.mem_of_getElem? h1)
  have f1 : ad = 0 := List.eq_of_mem_replicate (List.mem_of_getElem? h2)
  have f2 : sv = 0 := List.eq_of_mem_replicate (List.mem_of_getElem? h3)
  have f3 : un = [] := List.eq_of_mem_replicate (List.mem_of_getElem? h4)
  subst f1 f2 f3
  rw [e1, e2]
  refine ⟨rfl, fun j x hx => (by simp at hx), Int.le_refl _, by omega, fun _ => rfl, rfl, fun j hj => (by simp at hj)⟩
end Go.Proofs.Ytanfhmebjgmdpaa.Qj
