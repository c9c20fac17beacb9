/-
  Texts merged into one, to keep the claim small: Su9, SuA.
-/
import Derived.Test.YtlcjhbemgagchaaMn45
import Derived.Test.YtlcjhbemgagchaaMc25
import Derived.Test.YtlcjhbemgagchaaMn32
import Derived.Test.YtlcjhbemgagchaaMc3
import Derived.Test.YtlcjhbemgagchaaMn46
section
/-
  StreamFeeds: the law's pieces, where both are the same. (printed by pr_pcs.py)
-/
namespace Go.Proofs.Ytlcjhbemgagchaa
open Go.RowKit
set_option linter.unusedVariables false
theorem pflat_cells (l : List PC) : l.flatMap pcells = cellsOf pcells l := rfl
theorem Pcr.addr {W w : World} {l : List PC} {t : TypeId} {A : Option Addr} {n c : Nat} {g : Option Nat} (h : Pcr W w l t A n c g) (h0 : 0 < n) : ∃ b o, A = some ⟨b, o, none⟩ := by
  obtain ⟨b, o, hA, -⟩ := h.ow.sl.2 h0
  exact ⟨b, o, hA⟩
/-- A piece's command; its error. -/
theorem Pcr.loadC {W w : World} {l : List PC} {t : TypeId} {b o n c : Nat} {g : Option Nat} (h : Pcr W w l t (some ⟨b, o, none⟩) n c g) {i : Nat} {a : PC} (ha : l[i]? = some a) : (Instr.loadAt tCm (.pointer (some ⟨b, o + i * 25, none⟩))).run Try.prog w = .ok (.agg #[.int .i64 a.c.id, .int .i64 a.c.kind, .string (strOf a.c.name), .int .i64 a.c.to_, .int .u64 (a.c.co : Int), .int .i64 a.c.item, .int .i64 a.c.num, .int .i64 a.c.of_, .int .i64 a.c.e.acc, .int .i64 a.c.e.item, .int .u64 (a.c.e.co : Int), .int .u64 (a.c.e.pr : Int), .slice a.c.e.A a.c.e.n a.c.e.c, .int .i64 a.c.k.num, .int .i64 a.c.k.kind, .int .i64 a.c.k.by_, .int .i64 a.c.k.dl, .int .i64 a.c.k.to_, .int .i64 a.c.k.want, .int .u64 (a.c.k.pr : Int), .int .u64 (a.c.k.rs : Int), .int .u64 (a.c.k.st : Int), .int .i64 a.c.k.of_, .slice a.c.k.A a.c.k.n a.c.k.c]) w := by
  have ho := h.ow
  rw [pflat_cells] at ho
  obtain ⟨b', o', cur, hA, hg, hh, h1, h2, h3, h4⟩ := ho.row pcells_len ha h.len.symm
  cases hA
  have h5 : (cur.toList.drop (o + i * 25)).take 24 = ccells a.c := by
    have := congrArg (List.take 24) h4
    rw [List.take_take] at this
    exact this
  simp only [Instr.loadAt, Instr.sureAddr, Sem.run_bind, Sem.run_pure, Result.andThen_ok]
  rw [run_loadVar_at w b (o + i * 25) t tCm cur (ccells a.c).toArray (0, 0) _ hh Try.underlying31 rfl (by simpa [ccells_len] using infoCm) (by simpa [ccells_len] using h5)]
  rfl
theorem Pcr.err {W w : World} {l : List PC} {t : TypeId} {b o n c : Nat} {g : Option Nat} (h : Pcr W w l t (some ⟨b, o, none⟩) n c g) {i : Nat} {a : PC} (ha : l[i]? = some a) : w.cell? ⟨b, o + i * 25 + 24, none⟩ = some (.int .i64 (a.er : Int)) := by
  have ho := h.ow
  rw [pflat_cells] at ho
  have h5 := cellsOf_at (enc := pcells) pcells_len l i a ha 24 (by omega)
  obtain ⟨b', o', e, -, hc, -⟩ := ho.look (j := i * 25 + 24) (u := .int .i64 (a.er : Int)) (by rw [h5]; rfl)
  cases e
  rw [← Nat.add_assoc] at hc
  exact hc
end Go.Proofs.Ytlcjhbemgagchaa
end

section
/-
  StreamFeeds: pieces that are written over, one by one, and gone on with.
-/
namespace Go.Proofs.Ytlcjhbemgagchaa
open Go.RowKit
set_option linter.unusedVariables false
/-- What is written over: wishes, pieces; new. -/
def SpS (W w8 : World) (x : Nat) : Prop := W.heap.size ≤ x ∧ (Typed w8 x 3 ∨ Typed w8 x tPc)
section
variable {W w w' w8 : World} {l : List PC} {A : Option Addr} {n c : Nat} {g : Option Nat} {S : Nat → Prop}
/-- Rows from i on, wishes from j on are as they were. -/
structure LSp (W w8 : World) (l : List PC) (A : Option Addr) (m d : Nat) (g : Option Nat) (i j0 : Nat) (w : World) : Prop where
  len : l.length = m
  nl : ∀ q ∈ l, q.c.e.n ≤ 1048576
  ow : ∃ l' : List PC, l'.length = m ∧ (∀ j, i ≤ j → l'[j]? = l[j]?) ∧ Ow w tPc 25 A m d (cellsOf pcells l') g
  it : ∀ (j : Nat) (q : PC), l[j]? = some q → j0 ≤ j → ∃ gq, Ow w 3 1 q.c.e.A q.c.e.n q.c.e.c (q.c.e.ws.map iv) gq ∧ ∀ x, gq = some x → W.heap.size ≤ x ∧ Typed w8 x 3
  ap : l.Pairwise fun p q => ∀ x o y o', p.c.e.A = some ⟨x, o, none⟩ → q.c.e.A = some ⟨y, o', none⟩ → x < y
  gl : ∀ x, g = some x → W.heap.size ≤ x ∧ Typed w8 x tPc
  fr : Fr (SpS W w8) w8 w
variable {m d i j0 : Nat}
theorem LSp.start (h : Pcm W w8 l A m d g) : LSp W w8 l A m d g 0 0 w8 :=
  ⟨h.len.symm, fun q hq => (h.own q hq).en, ⟨l, h.len.symm, fun _ _ => rfl, h.ow⟩, fun j q hq _ => by
    obtain ⟨gq, k1, k2⟩ := (h.own q (List.mem_of_getElem? hq)).eo
    exact ⟨gq, k1, fun x e => ⟨k2 x e, k1.typed x e⟩⟩, h.ap, fun x e => ⟨h.new x e, h.ow.typed x e⟩, Fr.refl _ _⟩
/-- The cell that holds a piece's wishes. -/
theorem LSp.items {b o : Nat} (h : LSp W w8 l (some ⟨b, o, none⟩) m d g i j0 w) {q : PC} (hq : l[i]? = some q) : w.cell? ⟨b, o + i * 25 + 12, none⟩ = some (.slice q.c.e.A q.c.e.n q.c.e.c) := by
  obtain ⟨l', h1, h2, h3⟩ := h.ow
  have h4 : l'[i]? = some q := (h2 i (Nat.le_refl _)).trans hq
  have h5 := cellsOf_at (enc := pcells) pcells_len l' i q h4 12 (by omega)
  obtain ⟨b', o', e, -, hc, -⟩ := h3.look (j := i * 25 + 12) (u := .slice q.c.e.A q.c.e.n q.c.e.c) (by rw [h5]; rfl)
  cases e
  rw [← Nat.add_assoc] at hc
  exact hc
/-- A wish of the piece at hand is written. -/
theorem LSp.put (h : LSp W w8 l A m d g i (i + 1) w) {q : PC} (hq : l[i]? = some q) {ys : List Int} {x o k : Nat} (hA : q.c.e.A = some ⟨x, o, none⟩) (hO : Ow w 3 1 q.c.e.A q.c.e.n q.c.e.c (ys.map iv) (some x)) (hk : k < q.c.e.n) (hx : W.heap.size ≤ x ∧ Typed w8 x 3) (v : Int) :
    LSp W w8 l A m d g i (i + 1) (w.setCell ⟨x, o + k, none⟩ (.int .i64 v)) ∧ Ow (w.setCell ⟨x, o + k, none⟩ (.int .i64 v)) 3 1 q.c.e.A q.c.e.n q.c.e.c ((ys.set k v).map iv) (some x) := by
  have hF : Fr (· = x) w (w.setCell ⟨x, o + k, none⟩ (.int .i64 v)) := (Fr.refl _ _).setAt _
  obtain ⟨l', h1, h2, h3⟩ := h.ow
  refine ⟨⟨h.len, h.nl, ⟨l', h1, h2, h3.fr hF fun b e e' => ?_⟩, fun j p hp hj => ?_, h.ap, h.gl, h.fr.trans (hF.mono fun y _ e => by subst e; exact ⟨hx.1, .inl hx.2⟩)⟩, ?_⟩
  · subst e'
    exact absurd ((h3.typed b e).same (hO.typed b rfl)) (by decide)
  · obtain ⟨gp, k1, k2⟩ := h.it j p hp hj
    refine ⟨gp, k1.fr hF fun b e e' => ?_, k2⟩
    subst e'
    rw [e] at k1
    obtain ⟨o', hA'⟩ := k1.addr_of
    obtain ⟨hi', ei⟩ := List.getElem?_eq_some_iff.1 hq
    obtain ⟨hj', ej⟩ := List.getElem?_eq_some_iff.1 hp
    have := List.pairwise_iff_getElem.1 h.ap i j hi' hj' (by omega) b o b o' (by rw [ei]; exact hA) (by rw [ej]; exact hA')
    omega
  · rw [List.map_set]
    have h4 := (hA ▸ hO).put (j := k) (by omega) (iv v)
    rw [hA]
    exact h4
/-- The piece at hand is written over. -/
theorem LSp.over {b o : Nat} (h : LSp W w8 l (some ⟨b, o, none⟩) m d g i (i + 1) w) (hi : i < m) :
    ∃ w', (Instr.storeAt tPc (.pointer (some ⟨b, o + i * 25, none⟩)) (.agg (pcells ⟨zeroC, 7⟩).toArray)).run Try.prog w = .ok () w' ∧ LSp W w8 l (some ⟨b, o, none⟩) m d g (i + 1) (i + 1) w' := by
  obtain ⟨l', h1, h2, h3⟩ := h.ow
  obtain ⟨w', k1, k2, k3⟩ := h3.store (P := Try.prog) pcells_len pcells_one hi h1 ⟨zeroC, 7⟩ infoPc
  have hgb : g = some b := h3.sblk rfl
  refine ⟨w', k1, h.len, h.nl, ⟨l'.set i ⟨zeroC, 7⟩, by simp [h1], fun j hj => ?_, k2⟩, fun j q hq hj => ?_, h.ap, h.gl, h.fr.trans (k3.mono fun x _ e => by subst e; exact ⟨(h.gl x hgb).1, .inr (h.gl x hgb).2⟩)⟩
  · rw [List.getElem?_set_ne (by omega)]; exact h2 j (by omega)
  · obtain ⟨gq, m1, m2⟩ := h.it j q hq hj
    exact ⟨gq, m1.fr k3 fun y e e' => by subst e'; exact absurd ((m1.typed y e).same (h3.typed y hgb)) (by decide), m2⟩
end
end Go.Proofs.Ytlcjhbemgagchaa
end
