/-
  The walk: what stands while All's iterator runs over the ring beside the document's.
-/
import Derived.Test.YteleakbbppbnnaaRr7
namespace Go.Proofs.Yteleakbbppbnnaa
open Go.RowKit Go.Shelf
set_option linter.unusedVariables false
section
variable {w w' w1 w2 W W' : World} {p : Nat} {g : Option Nat} {q : Nat} {lg : Option Nat} {room : Nat} {xs ys : List Int}
theorem Ow.ty8 {e : TypeId} {size n c : Nat} {A : Option Addr} {xs : List Value} {g : Option Nat} (h : Ow w e size A n c xs g) {b : Nat} (hb : g = some b) : ∃ cs, Bl w b e cs := by
  subst hb
  exact Ow.ty h
theorem RI.ty (h : RI w p g room xs) {b : Nat} (hb : foot p g b) : ∃ t cs, Bl w b t cs := by
  obtain ⟨C, cc, s, e1, e2, h⟩ := h
  rcases hb with rfl | hb
  · exact ⟨_, _, h.bl⟩
  · obtain ⟨cs, h3⟩ := Ow.ty8 h.ow hb.symm
    exact ⟨_, _, h3⟩
theorem RefI.ty (h : RefI w q lg room xs) {b : Nat} (hb : rfoot q lg b) : ∃ t cs, Bl w b t cs := by
  obtain ⟨LA, c, h1, h2⟩ := h
  rcases hb with rfl | hb
  · exact ⟨_, _, h1⟩
  · obtain ⟨cs, h3⟩ := Ow.ty8 h2 hb.symm
    exact ⟨_, _, h3⟩
theorem Mix.ty (h : Mix w p g q lg room xs ys) {b : Nat} (hb : mfoot p g q lg b) : ∃ t cs, Bl w b t cs := hb.elim h.a.ty h.b.ty
theorem cell_row {row : Option Nat} {b : Nat} {t : TypeId} {cs : Array Value} (hb : Bl W b t cs) (hr : ∀ r, row = some r → ∃ o : Obj, W.heap[r]? = some o ∧ o.isCells = false) : ¬ some b = row := fun e => by
  obtain ⟨o, ho, hc⟩ := hr b e.symm
  unfold Bl at hb
  rw [hb] at ho; cases ho; cases hc
theorem Bl.own8 {row : Option Nat} {b : Nat} {t : TypeId} {cs : Array Value} (h : Bl W b t cs) (hg : W.grownBy W' row) (hr : ∀ r, row = some r → ∃ o : Obj, W.heap[r]? = some o ∧ o.isCells = false) : Bl W' b t cs :=
  h.fr (Fr.ofGrown hg) (cell_row h hr)
theorem Mix.own {row : Option Nat} (h : Mix W p g q lg room xs ys) (hg : W.grownBy W' row) (hr : ∀ r, row = some r → ∃ o : Obj, W.heap[r]? = some o ∧ o.isCells = false) : Mix W' p g q lg room xs ys :=
  h.fr (Fr.ofGrown hg) fun b hb e => by
    obtain ⟨t, cs, h3⟩ := h.ty hb
    exact cell_row h3 hr e
theorem Mix.keeps (h : Mix W p g q lg room xs ys) (hf : Fr (mfoot p g q lg) W W') (B : Nat) : KeepsFrom B W W' := hf.keepsFrom fun k hk => by
  obtain ⟨t, cs, hb⟩ := h.ty hk
  exact .inr ⟨cs, t, (0, 0), hb⟩
end
/-- What stands while the walk runs: the rings, the walk's own boxes, the world before. -/
structure WJ (w0 : World) (s p q room : Nat) (g0 lg0 : Option Nat) (op : Array Value) (v : Bool) (r : AS) (W : World) : Prop where
  mix : Mix W p r.g q r.lg room r.xs r.xs
  b3 : Bl W s tPR #[.pointer (some ⟨p, 0, none⟩)]
  b4 : Bl W (s + 1) 49 #[.pointer (some ⟨q, 0, none⟩)]
  b5 : Bl W (s + 2) 36 op
  b6 : Bl W (s + 3) 4 #[.bool v]
  b7 : Bl W (s + 4) 3 #[.int .i64 (r.k : Int)]
  bx : Bl W (s + 5) tPR #[.pointer (some ⟨p, 0, none⟩)]
  fr : Fr (fun b => mfoot p g0 q lg0 b ∨ s ≤ b) w0 W
  nw : ∀ b, b < s → mfoot p r.g q r.lg b → mfoot p g0 q lg0 b
  ap : ∀ b, mfoot p r.g q r.lg b → b < s ∨ s + 6 ≤ b
  sz : w0.heap.size = s
section
variable {w0 W W' : World} {s p q room : Nat} {g0 lg0 : Option Nat} {op : Array Value} {v : Bool} {r : AS}
theorem WJ.apart (h : WJ w0 s p q room g0 lg0 op v r W) {b : Nat} (h1 : s ≤ b) (h2 : b < s + 6) : ¬ mfoot p r.g q r.lg b := fun e => by
  rcases h.ap b e with h3 | h3 <;> omega
theorem WJ.quiet (h : WJ w0 s p q room g0 lg0 op v r W) (hf : Fr (fun _ => False) W W') : WJ w0 s p q room g0 lg0 op v r W' :=
  ⟨h.mix.quiet hf, h.b3.fr hf id, h.b4.fr hf id, h.b5.fr hf id, h.b6.fr hf id, h.b7.fr hf id, h.bx.fr hf id, h.fr.trans (hf.weak _), h.nw, h.ap, h.sz⟩
theorem WJ.own {B : Nat} (hB : s ≤ B) : OwnFrom B (WJ w0 s p q room g0 lg0 op v) := by
  rintro r W W' row h hg hr
  have hr' : ∀ r, row = some r → ∃ o : Obj, W.heap[r]? = some o ∧ o.isCells = false := fun r e => (hr r e).2
  exact ⟨h.mix.own hg hr', h.b3.own8 hg hr', h.b4.own8 hg hr', h.b5.own8 hg hr', h.b6.own8 hg hr', h.b7.own8 hg hr', h.bx.own8 hg hr',
    h.fr.trans ((Fr.ofGrown hg).mono fun k _ e => .inr (by have := (hr k e.symm).1; omega)), h.nw, h.ap, h.sz⟩
/-- A call turned the rings. -/
theorem WJ.turned {ys : List Int} (h : WJ w0 s p q room g0 lg0 op v r W) (ho : MixOut W p r.g q r.lg room ys ys W') :
    ∃ r', r'.k = r.k ∧ WJ w0 s p q room g0 lg0 op v r' W' := by
  obtain ⟨g', lg', hm, hf, hn⟩ := ho
  have hs : s + 6 ≤ W.heap.size := h.bx.lt
  refine ⟨⟨r.k, g', lg', ys⟩, rfl, hm, h.b3.fr hf (h.apart (by omega) (by omega)), h.b4.fr hf (h.apart (by omega) (by omega)), h.b5.fr hf (h.apart (by omega) (by omega)), h.b6.fr hf (h.apart (by omega) (by omega)), h.b7.fr hf (h.apart (by omega) (by omega)), h.bx.fr hf (h.apart (by omega) (by omega)), ?_, ?_, ?_, h.sz⟩
  · refine h.fr.trans (hf.mono fun b _ e => ?_)
    rcases Nat.lt_or_ge b s with h1 | h1
    · exact .inl (h.nw b h1 e)
    · exact .inr h1
  · exact fun b hb e => h.nw b hb (hn b (by omega) e)
  · intro b hb
    rcases Nat.lt_or_ge b W.heap.size with h1 | h1
    · exact h.ap b (hn b h1 hb)
    · exact .inr (by omega)
/-- Behind the walk. -/
theorem WJ.out (h : WJ w0 s p q room g0 lg0 op v r W) : MixOut w0 p g0 q lg0 room r.xs r.xs W :=
  ⟨r.g, r.lg, h.mix, h.fr.mono fun b hb e => e.elim id fun h1 => by have := h.sz; omega, fun b hb e => h.nw b (by have := h.sz; omega) e⟩
end
end Go.Proofs.Yteleakbbppbnnaa
