/-
  Texts merged into one, to keep the claim small: DxT.
-/
import Derived.Test.YtanfhmebjgmdpaaMe41
/-
  DrrScripts: the rows of servers as the walk holds them.
-/
namespace Go.Proofs.Ytanfhmebjgmdpaa.Qi
open Go.RowKit Go.Shelf
set_option linter.unusedVariables false
abbrev tPDr : TypeId := 51
abbrev tPMr : TypeId := 61
/-- Two rows of pointers (values V1, V2) and the servers that stand so far. -/
structure PQ (s : Nat) (w0 w : World) (D : Int) (Ls : List (Option EE)) (V1 : List Value) (k1 : Nat) (A1 : Option Addr) (c1 : Nat) (g1 : Option Nat) (V2 : List Value) (k2 : Nat) (A2 : Option Addr) (c2 : Nat) (g2 : Option Nat) : Prop where
  o1 : Ow w tPDr 1 A1 k1 c1 V1 g1
  o2 : Ow w tPMr 1 A2 k2 c2 V2 g2
  b1 : ∀ x, g1 = some x → s ≤ x
  b2 : ∀ x, g2 = some x → s ≤ x
  ne : ∀ x, g1 = some x → g2 ≠ some x
  ew : EW s w D Ls
  n1 : ∀ a, some a ∈ Ls → ∀ x, a.foot x → g1 ≠ some x
  n2 : ∀ a, some a ∈ Ls → ∀ x, a.foot x → g2 ≠ some x
  fr : Fr (fun x => s ≤ x) w0 w
section
variable {s : Nat} {w0 w wx w3 : World} {D : Int} {Ls : List (Option EE)} {V1 V2 : List Value} {k1 c1 k2 c2 : Nat} {A1 A2 : Option Addr} {g1 g2 : Option Nat}
theorem PQ.quiet (h : PQ s w0 w D Ls V1 k1 A1 c1 g1 V2 k2 A2 c2 g2) (hf : Fr (fun _ => False) w wx) : PQ s w0 wx D Ls V1 k1 A1 c1 g1 V2 k2 A2 c2 g2 :=
  ⟨h.o1.fr hf (fun _ _ => id), h.o2.fr hf (fun _ _ => id), h.b1, h.b2, h.ne, h.ew.quiet hf, h.n1, h.n2, h.fr.trans (hf.weak _)⟩
theorem PQ.app1 (h : PQ s w0 w D Ls V1 k1 A1 c1 g1 V2 k2 A2 c2 g2) (hs : s ≤ w.heap.size) (hx : Fr (fun _ => False) w wx) {v : Value} {A3 : Option Addr} {c3 : Nat} {g3 : Option Nat}
    (h4 : Ow w3 tPDr 1 A3 (k1 + 1) c3 (V1 ++ [v]) g3) (hf : Fr (fun k => some k = g1) wx w3) (hg : g3 = g1 ∨ ∃ b, g3 = some b ∧ wx.heap.size ≤ b) :
    PQ s w0 w3 D Ls (V1 ++ [v]) (k1 + 1) A3 c3 g3 V2 k2 A2 c2 g2 ∧ w.heap.size ≤ w3.heap.size := by
  have q := h.quiet hx
  have sx := hx.size
  have s3 := hf.size
  refine ⟨⟨h4, q.o2.fr hf fun x hx e => q.ne x e.symm hx, ?_, h.b2, ?_, q.ew.fr hf fun a ha x hx e => h.n1 a ha x hx e.symm, ?_, h.n2, q.fr.comp hf fun x _ e => h.b1 x e.symm⟩, by omega⟩
  · rcases hg with hg | ⟨b, hg, hb⟩
    · rw [hg]; exact h.b1
    · rw [hg]; intro x e; cases e; omega
  · rcases hg with hg | ⟨b, hg, hb⟩
    · rw [hg]; exact h.ne
    · rw [hg]
      intro x e1 e2
      cases e1
      have := q.o2.lt b e2
      omega
  · rcases hg with hg | ⟨b, hg, hb⟩
    · rw [hg]; exact h.n1
    · rw [hg]
      intro a ha x hx e
      cases e
      have := (q.ew.ok a ha).lt hx
      omega
theorem PQ.app2 (h : PQ s w0 w D Ls V1 k1 A1 c1 g1 V2 k2 A2 c2 g2) (hs : s ≤ w.heap.size) (hx : Fr (fun _ => False) w wx) {v : Value} {A3 : Option Addr} {c3 : Nat} {g3 : Option Nat}
    (h4 : Ow w3 tPMr 1 A3 (k2 + 1) c3 (V2 ++ [v]) g3) (hf : Fr (fun k => some k = g2) wx w3) (hg : g3 = g2 ∨ ∃ b, g3 = some b ∧ wx.heap.size ≤ b) :
    PQ s w0 w3 D Ls V1 k1 A1 c1 g1 (V2 ++ [v]) (k2 + 1) A3 c3 g3 ∧ w.heap.size ≤ w3.heap.size := by
  have q := h.quiet hx
  have sx := hx.size
  have s3 := hf.size
  refine ⟨⟨q.o1.fr hf fun x hx e => q.ne x hx e.symm, h4, h.b1, ?_, ?_, q.ew.fr hf fun a ha x hx e => h.n2 a ha x hx e.symm, h.n1, ?_, q.fr.comp hf fun x _ e => h.b2 x e.symm⟩, by omega⟩
  · rcases hg with hg | ⟨b, hg, hb⟩
    · rw [hg]; exact h.b2
    · rw [hg]; intro x e; cases e; omega
  · rcases hg with hg | ⟨b, hg, hb⟩
    · rw [hg]; exact h.ne
    · rw [hg]
      intro x e1 e2
      cases e2
      have := q.o1.lt b e1
      omega
  · rcases hg with hg | ⟨b, hg, hb⟩
    · rw [hg]; exact h.n2
    · rw [hg]
      intro a ha x hx e
      cases e
      have := (q.ew.ok a ha).lt hx
      omega
theorem PQ.none_ (h : PQ s w0 w D Ls V1 k1 A1 c1 g1 V2 k2 A2 c2 g2) : PQ s w0 w D (Ls ++ [none]) V1 k1 A1 c1 g1 V2 k2 A2 c2 g2 :=
  ⟨h.o1, h.o2, h.b1, h.b2, h.ne, h.ew.pushN, fun a ha => by
    rcases List.mem_append.1 ha with ha | ha
    · exact h.n1 a ha
    · simp at ha, fun a ha => by
    rcases List.mem_append.1 ha with ha | ha
    · exact h.n2 a ha
    · simp at ha, h.fr⟩
theorem PQ.some_ {a : EE} (h : PQ s w0 w D Ls V1 k1 A1 c1 g1 V2 k2 A2 c2 g2) (hs : s ≤ w.heap.size) (hx : Fr (fun _ => False) w wx) (hk : EOk wx D a) (hn : ∀ x, a.foot x → w.heap.size ≤ x) : PQ s w0 wx D (Ls ++ [some a]) V1 k1 A1 c1 g1 V2 k2 A2 c2 g2 := by
  have q := h.quiet hx
  refine ⟨q.o1, q.o2, h.b1, h.b2, h.ne, h.ew.push hs hx hk hn, fun c hc x hx e => ?_, fun c hc x hx e => ?_, q.fr⟩
  · rcases List.mem_append.1 hc with hc | hc
    · exact h.n1 c hc x hx e
    · simp at hc; subst hc; have := hn x hx; have := h.o1.lt x e; omega
  · rcases List.mem_append.1 hc with hc | hc
    · exact h.n2 c hc x hx e
    · simp at hc; subst hc; have := hn x hx; have := h.o2.lt x e; omega
/-- What is held between two steps of the script. -/
def HS (s : Nat) (w0 : World) (L0 : List (Option EE)) (k : Nat) (A1 : Option Addr) (c1 : Nat) (g1 : Option Nat) (A2 : Option Addr) (c2 : Nat) (g2 : Option Nat) (D : Int) (w : World) : Prop :=
  s ≤ w.heap.size ∧ ∃ Ls, Ls.map ptrD = L0.map ptrD ∧ Ls.map ptrM = L0.map ptrM ∧ PQ s w0 w D Ls (L0.map ptrD) k A1 c1 g1 (L0.map ptrM) k A2 c2 g2
theorem HS.step {L0 : List (Option EE)} {k i : Nat} {v1 v2 : Value} (h : HS s w0 L0 k A1 c1 g1 A2 c2 g2 D w) (h1 : (L0.map ptrD)[i]? = some v1) (h2 : (L0.map ptrM)[i]? = some v2) (hD : 0 ≤ D) (hD2 : D + 4096 ≤ 4611686018427387904) (kd wh qu co x mo : Int) :
    Calls Try.prog 20 #[v1, v2, .agg #[.int .i64 kd, .int .i64 wh, .int .i64 qu, .int .i64 co, .int .i64 x, .int .i64 mo]] w fun r w' => r = .returned (.bool true) ∧ HS s w0 L0 k A1 c1 g1 A2 c2 g2 (D + 1024) w' := by
  obtain ⟨hs, Ls, e1, e2, hp⟩ := h
  rw [← e1, List.getElem?_map] at h1
  rw [← e2, List.getElem?_map] at h2
  obtain ⟨e, he, rfl⟩ := Option.map_eq_some_iff.1 h1
  rw [he] at h2
  cases h2
  refine (does_ent (N := fun x => x < s ∨ g1 = some x ∨ g2 = some x) hp.ew hs hD hD2 (fun x hx => ?_) (fun a ha x hx hN => ?_) he kd wh qu co x mo).mono ?_
  · rcases hx with hx | hx | hx
    · omega
    · exact hp.o1.lt x hx
    · exact hp.o2.lt x hx
  · rcases hN with hN | hN | hN
    · have := hp.ew.lo a ha x hx; omega
    · exact hp.n1 a ha x hx hN
    · exact hp.n2 a ha x hx hN
  · rintro r w' ⟨rfl, Ls', hE, m1, m2, hN, hF⟩
    have hsz := hF.size
    exact ⟨rfl, by omega, Ls', m1.trans e1, m2.trans e2, hp.o1.fr hF (fun x hx e => e (.inr (.inl hx))), hp.o2.fr hF (fun x hx e => e (.inr (.inr hx))), hp.b1, hp.b2, hp.ne, hE, fun a ha x hx e => hN a ha x hx (.inr (.inl e)), fun a ha x hx e => hN a ha x hx (.inr (.inr e)),
      hp.fr.comp hF fun x _ e => by
        rcases Nat.lt_or_ge x s with h | h
        · exact absurd (.inl h) e
        · exact h⟩
theorem HS.of {L0 : List (Option EE)} {k : Nat} (h : PQ s w0 w D L0 (L0.map ptrD) k A1 c1 g1 (L0.map ptrM) k A2 c2 g2) (hs : s ≤ w.heap.size) : HS s w0 L0 k A1 c1 g1 A2 c2 g2 D w := ⟨hs, L0, rfl, rfl, h⟩
theorem HS.quiet {L0 : List (Option EE)} {k : Nat} (h : HS s w0 L0 k A1 c1 g1 A2 c2 g2 D w) (hf : Fr (fun _ => False) w wx) : HS s w0 L0 k A1 c1 g1 A2 c2 g2 D wx := by
  obtain ⟨hs, Ls, e1, e2, hp⟩ := h
  exact ⟨by have := hf.size; omega, Ls, e1, e2, hp.quiet hf⟩
/-- Cell i of both rows. -/
theorem HS.look {L0 : List (Option EE)} {k i : Nat} {v1 v2 : Value} (h : HS s w0 L0 k A1 c1 g1 A2 c2 g2 D w) (h1 : (L0.map ptrD)[i]? = some v1) (h2 : (L0.map ptrM)[i]? = some v2) :
    ∃ b1 o1 b2 o2, A1 = some ⟨b1, o1, none⟩ ∧ A2 = some ⟨b2, o2, none⟩ ∧ w.cell? ⟨b1, o1 + i, none⟩ = some v1 ∧ w.cell? ⟨b2, o2 + i, none⟩ = some v2 := by
  obtain ⟨hs, Ls, e1, e2, hp⟩ := h
  obtain ⟨b1, o1, rfl, -, x1, -⟩ := hp.o1.look h1
  obtain ⟨b2, o2, rfl, -, x2, -⟩ := hp.o2.look h2
  exact ⟨b1, o1, b2, o2, rfl, rfl, x1, x2⟩
theorem HS.fr {L0 : List (Option EE)} {k : Nat} (h : HS s w0 L0 k A1 c1 g1 A2 c2 g2 D w) : Fr (fun x => s ≤ x) w0 w := by
  obtain ⟨hs, Ls, e1, e2, hp⟩ := h
  exact hp.fr
end
end Go.Proofs.Ytanfhmebjgmdpaa.Qi
