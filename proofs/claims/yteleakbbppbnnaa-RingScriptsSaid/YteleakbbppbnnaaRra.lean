/-
  Several rings beside the document's: what is held of them (RW), the rows of pointers (PW), and a step that turns some of them.
-/
import Derived.Test.YteleakbbppbnnaaRr9
namespace Go.Proofs.Yteleakbbppbnnaa
open Go.RowKit
set_option linter.unusedVariables false
/-- A ring and the document's: where they lie, what they hold. -/
structure RE where
  p : Nat
  q : Nat
  g : Option Nat
  lg : Option Nat
  room : Nat
  xs : List Int
  ys : List Int
abbrev tPM : TypeId := 49
abbrev tW : TypeId := 48
abbrev tInt : TypeId := 3
def RE.foot (a : RE) : Nat → Prop := mfoot a.p a.g a.q a.lg
def efoot (e : Option RE) : Nat → Prop := fun b => ∃ a, e = some a ∧ a.foot b
def MixE (w : World) (a : RE) : Prop := Mix w a.p a.g a.q a.lg a.room a.xs a.ys
def ptrP : Option RE → Value
  | none => .pointer none
  | some a => .pointer (some ⟨a.p, 0, none⟩)
def ptrQ : Option RE → Value
  | none => .pointer none
  | some a => .pointer (some ⟨a.q, 0, none⟩)
structure RW (B0 : Nat) (w : World) (L : List (Option RE)) : Prop where
  mix : ∀ a, some a ∈ L → MixE w a
  sep : ∀ (i j : Nat) (a c : RE), L[i]? = some (some a) → L[j]? = some (some c) → i ≠ j → ∀ b, a.foot b → ¬ c.foot b
  lo : ∀ a, some a ∈ L → ∀ b, a.foot b → B0 ≤ b
/-- What turns is a ring, numbers, or a document's ring. -/
def Small (S : Nat → Prop) (w : World) : Prop := ∀ b, S b → b < w.heap.size → ∃ t cs, Bl w b t cs ∧ (t = tRing ∨ t = tInt ∨ t = tRef)
section
variable {w w' : World} {p : Nat} {g : Option Nat} {q : Nat} {lg : Option Nat} {room : Nat} {xs ys : List Int}
theorem RI.ty3 (h : RI w p g room xs) {b : Nat} (hb : foot p g b) : ∃ t cs, Bl w b t cs ∧ (t = tRing ∨ t = tInt ∨ t = tRef) := by
  obtain ⟨C, cc, s, e1, e2, h⟩ := h
  rcases hb with rfl | hb
  · exact ⟨_, _, h.bl, .inl rfl⟩
  · obtain ⟨cs, h3⟩ := Ow.ty8 h.ow hb.symm
    exact ⟨_, _, h3, .inr (.inl rfl)⟩
theorem RefI.ty3 (h : RefI w q lg room xs) {b : Nat} (hb : rfoot q lg b) : ∃ t cs, Bl w b t cs ∧ (t = tRing ∨ t = tInt ∨ t = tRef) := by
  obtain ⟨LA, c, h1, h2⟩ := h
  rcases hb with rfl | hb
  · exact ⟨_, _, h1, .inr (.inr rfl)⟩
  · obtain ⟨cs, h3⟩ := Ow.ty8 h2 hb.symm
    exact ⟨_, _, h3, .inr (.inl rfl)⟩
theorem MixE.ty3 {a : RE} (h : MixE w a) {b : Nat} (hb : a.foot b) : ∃ t cs, Bl w b t cs ∧ (t = tRing ∨ t = tInt ∨ t = tRef) := hb.elim h.a.ty3 h.b.ty3
end
section
variable {B0 : Nat} {w w' : World} {L : List (Option RE)} {S : Nat → Prop}
theorem RW.fr (h : RW B0 w L) (hf : Fr S w w') (hS : ∀ a, some a ∈ L → ∀ b, a.foot b → ¬ S b) : RW B0 w' L :=
  ⟨fun a ha => Mix.fr (h.mix a ha) hf (hS a ha), h.sep, h.lo⟩
theorem RW.quiet (h : RW B0 w L) (hf : Fr (fun _ => False) w w') : RW B0 w' L := h.fr hf fun _ _ _ _ => id
theorem RW.lt (h : RW B0 w L) {a : RE} (ha : some a ∈ L) {b : Nat} (hb : a.foot b) : b < w.heap.size := Mix.lt (h.mix a ha) hb
theorem RW.small (h : RW B0 w L) {e : Option RE} (he : e ∈ L) : Small (efoot e) w := by
  rintro b ⟨a, rfl, hb⟩ -
  exact MixE.ty3 (h.mix a he) hb
/-- The feet of those of the indices I. -/
def feet (L : List (Option RE)) (I : Nat → Prop) : Nat → Prop := fun b => ∃ k e, I k ∧ L[k]? = some e ∧ efoot e b
theorem RW.small_ (h : RW B0 w L) (I : Nat → Prop) : Small (feet L I) w := by
  rintro b ⟨k, e, -, he, hb⟩ hlt
  exact h.small (List.mem_of_getElem? he) b hb hlt
theorem RW.lo_ (h : RW B0 w L) (I : Nat → Prop) {b : Nat} (hb : feet L I b) : B0 ≤ b := by
  obtain ⟨k, e, -, he, a, rfl, hb⟩ := hb
  exact h.lo a (List.mem_of_getElem? he) b hb
theorem RW.step {I : Nat → Prop} {L' : List (Option RE)} (h : RW B0 w L) (hB : B0 ≤ w.heap.size) (hf : Fr (feet L I) w w') (ho : ∀ k, ¬ I k → L'[k]? = L[k]?)
    (hm : ∀ k a, I k → L'[k]? = some (some a) → MixE w' a ∧ ∀ b, b < w.heap.size → a.foot b → feet L I b)
    (hs : ∀ i j a c, I i → I j → i ≠ j → L'[i]? = some (some a) → L'[j]? = some (some c) → ∀ b, a.foot b → ¬ c.foot b) : RW B0 w' L' := by
  have hap : ∀ k a, ¬ I k → L[k]? = some (some a) → ∀ b, a.foot b → ¬ feet L I b := by
    rintro k a hk ha b hb ⟨j, e, hj, he, c, rfl, hc⟩
    exact h.sep k j a c ha he (fun e => hk (e ▸ hj)) b hb hc
  refine ⟨fun a ha => ?_, fun i j a c hi hj hij b h1 h2 => ?_, fun a ha b hb => ?_⟩
  · obtain ⟨k, hk⟩ := List.mem_iff_getElem?.1 ha
    by_cases hI : I k
    · exact (hm k a hI hk).1
    · rw [ho k hI] at hk
      exact Mix.fr (h.mix a (List.mem_of_getElem? hk)) hf fun b hb => hap k a hI hk b hb
  · by_cases hI : I i
    · by_cases hJ : I j
      · exact hs i j a c hI hJ hij hi hj b h1 h2
      · rw [ho j hJ] at hj
        exact hap j c hJ hj b h2 ((hm i a hI hi).2 b (h.lt (List.mem_of_getElem? hj) h2) h1)
    · rw [ho i hI] at hi
      by_cases hJ : I j
      · exact hap i a hI hi b h1 ((hm j c hJ hj).2 b (h.lt (List.mem_of_getElem? hi) h1) h2)
      · rw [ho j hJ] at hj
        exact h.sep i j a c hi hj hij b h1 h2
  · obtain ⟨k, hk⟩ := List.mem_iff_getElem?.1 ha
    by_cases hI : I k
    · rcases Nat.lt_or_ge b w.heap.size with hlt | hge
      · exact h.lo_ I ((hm k a hI hk).2 b hlt hb)
      · omega
    · rw [ho k hI] at hk
      exact h.lo a (List.mem_of_getElem? hk) b hb
/-- How an entry turns: its room and its place stay. -/
def Turns (f g : Nat → List Int → List Int) : Option RE → Option RE → Prop
  | none, none => True
  | some a, some b => b.p = a.p ∧ b.q = a.q ∧ b.room = a.room ∧ b.xs = f a.room a.xs ∧ b.ys = g a.room a.ys
  | _, _ => False
theorem Turns.ptrs {f g : Nat → List Int → List Int} {e e' : Option RE} (h : Turns f g e e') : ptrP e' = ptrP e ∧ ptrQ e' = ptrQ e := by
  cases e <;> cases e' <;> simp only [Turns] at h
  · exact ⟨rfl, rfl⟩
  · obtain ⟨h1, h2, -⟩ := h
    simp only [ptrP, ptrQ, h1, h2]; exact ⟨trivial, trivial⟩
theorem map_set_same {β : Type} {f : Option RE → β} {k : Nat} {e e' : Option RE} (he : L[k]? = some e) (h : f e' = f e) : (L.set k e').map f = L.map f := by
  rw [List.map_set, h]
  apply List.ext_getElem?
  intro i
  by_cases hi : k = i
  · subst hi
    rw [List.getElem?_set_self (by have := (List.getElem?_eq_some_iff.1 he).1; simpa using this), List.getElem?_map, he]; rfl
  · rw [List.getElem?_set_ne hi]
/-- One of them turned. -/
theorem RW.turn {k : Nat} {a : RE} {xs' ys' : List Int} (h : RW B0 w L) (hB : B0 ≤ w.heap.size) (hk : L[k]? = some (some a)) (ho : MixOut w a.p a.g a.q a.lg a.room xs' ys' w') :
    ∃ a' : RE, a'.p = a.p ∧ a'.q = a.q ∧ a'.room = a.room ∧ a'.xs = xs' ∧ a'.ys = ys' ∧ RW B0 w' (L.set k (some a')) ∧ Fr (efoot (some a)) w w' ∧ ∀ b, b < w.heap.size → efoot (some a') b → efoot (some a) b := by
  obtain ⟨g', lg', hm, hf, hn⟩ := ho
  have hl : k < L.length := (List.getElem?_eq_some_iff.1 hk).1
  have hself : (L.set k (some ⟨a.p, a.q, g', lg', a.room, xs', ys'⟩))[k]? = some (some ⟨a.p, a.q, g', lg', a.room, xs', ys'⟩) := List.getElem?_set_self hl
  refine ⟨⟨a.p, a.q, g', lg', a.room, xs', ys'⟩, rfl, rfl, rfl, rfl, rfl, h.step (I := fun i => i = k) hB (hf.mono fun b _ hb => ⟨k, _, rfl, hk, a, rfl, hb⟩) (fun i hi => List.getElem?_set_ne (fun e => hi e.symm)) ?_ ?_, hf.mono fun b _ hb => ⟨a, rfl, hb⟩, ?_⟩
  · rintro i c rfl hc
    rw [hself] at hc
    cases hc
    exact ⟨hm, fun b hb hfo => ⟨i, _, rfl, hk, a, rfl, hn b hb hfo⟩⟩
  · rintro i j c d rfl rfl hij
    exact absurd rfl hij
  · rintro b hb ⟨c, hc, hfo⟩
    cases hc
    exact ⟨a, rfl, hn b hb hfo⟩
theorem RW.look (h : RW B0 w L) {k : Nat} {a : RE} (hk : L[k]? = some (some a)) : MixE w a := h.mix a (List.mem_of_getElem? hk)
end
/-- The rows of pointers. -/
structure PW (B0 wb : Nat) (L : List (Option RE)) (A1 : Option Addr) (c1 : Nat) (g1 : Option Nat) (A2 : Option Addr) (c2 : Nat) (g2 : Option Nat) (w : World) : Prop where
  bl : Bl w wb tW #[.slice A1 L.length c1, .slice A2 L.length c2]
  o1 : Ow w tPR 1 A1 L.length c1 (L.map ptrP) g1
  o2 : Ow w tPM 1 A2 L.length c2 (L.map ptrQ) g2
  n0 : B0 ≤ wb
  n1 : ∀ b, g1 = some b → B0 ≤ b
  n2 : ∀ b, g2 = some b → B0 ≤ b
section
variable {B0 wb : Nat} {L L' : List (Option RE)} {A1 : Option Addr} {c1 : Nat} {g1 : Option Nat} {A2 : Option Addr} {c2 : Nat} {g2 : Option Nat} {w w' : World} {S : Nat → Prop}
theorem PW.fr (h : PW B0 wb L A1 c1 g1 A2 c2 g2 w) (hf : Fr S w w') (hS : Small S w) : PW B0 wb L A1 c1 g1 A2 c2 g2 w' := by
  refine ⟨h.bl.fr hf fun hs => ?_, h.o1.fr hf fun b hb hs => ?_, h.o2.fr hf fun b hb hs => ?_, h.n0, h.n1, h.n2⟩
  · obtain ⟨t, cs, hc, ht⟩ := hS _ hs h.bl.lt
    have := (h.bl.same hc).2
    subst this
    revert ht; decide
  · obtain ⟨t, cs, hc, ht⟩ := hS _ hs (h.o1.lt b hb)
    obtain ⟨cs', hc'⟩ := Ow.ty8 h.o1 hb
    have := (hc'.same hc).2
    subst this
    revert ht; decide
  · obtain ⟨t, cs, hc, ht⟩ := hS _ hs (h.o2.lt b hb)
    obtain ⟨cs', hc'⟩ := Ow.ty8 h.o2 hb
    have := (hc'.same hc).2
    subst this
    revert ht; decide
theorem PW.quiet (h : PW B0 wb L A1 c1 g1 A2 c2 g2 w) (hf : Fr (fun _ => False) w w') : PW B0 wb L A1 c1 g1 A2 c2 g2 w' := h.fr hf fun _ e => e.elim
theorem PW.alike (h : PW B0 wb L A1 c1 g1 A2 c2 g2 w) (hl : L'.length = L.length) (h1 : L'.map ptrP = L.map ptrP) (h2 : L'.map ptrQ = L.map ptrQ) : PW B0 wb L' A1 c1 g1 A2 c2 g2 w :=
  ⟨by rw [hl]; exact h.bl, by rw [hl, h1]; exact h.o1, by rw [hl, h2]; exact h.o2, h.n0, h.n1, h.n2⟩
theorem Small.none_ (w : World) : Small (fun _ => False) w := fun _ e => e.elim
end
/-- Each ring holds what the document's holds. -/
def Even (L : List (Option RE)) : Prop := ∀ a, some a ∈ L → a.xs = a.ys
end Go.Proofs.Yteleakbbppbnnaa
