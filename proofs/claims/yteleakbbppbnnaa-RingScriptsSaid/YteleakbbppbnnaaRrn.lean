/-
  does, of any kind; one more ring of both kinds.
-/
import Derived.Test.YteleakbbppbnnaaRrd
import Derived.Test.YteleakbbppbnnaaRre
import Derived.Test.YteleakbbppbnnaaRrf
import Derived.Test.YteleakbbppbnnaaRrg
import Derived.Test.YteleakbbppbnnaaRrh
import Derived.Test.YteleakbbppbnnaaRrj
import Derived.Test.YteleakbbppbnnaaRrk
import Derived.Test.YteleakbbppbnnaaRrm
namespace Go.Proofs.Yteleakbbppbnnaa
open Go.RowKit
set_option linter.unusedVariables false
theorem does_any {B0 wb : Nat} {L : List (Option RE)} {w : World} (hH : WW B0 wb L w) (hL1 : 1 ≤ L.length) (hL2 : L.length ≤ 20)
    (hB : B0 ≤ w.heap.size) (kd wh tt n x : Int) (AL : Option Addr) (nl cl : Nat) (hnl : nl * 8 ≤ 140737488351232) (l : List Int) (hAL : SlB w B0 AL nl (l.map iv)) :
    Calls Try.prog 18 #[.pointer (some ⟨wb, 0, none⟩), .agg #[.int .i64 kd, .int .i64 wh, .int .i64 tt, .int .i64 n, .int .i64 x, .slice AL nl cl]] w fun r w' => r = .returned (.bool true) ∧ DoesOut B0 wb L w w' := by
  obtain ⟨A1, c1, g1, A2, c2, g2, hW, hI, hE⟩ := hH
  obtain ⟨m, hm⟩ : ∃ m, L.length = m := ⟨_, rfl⟩
  have Hm := hide hm
  rw [hm] at hL1 hL2
  obtain ⟨k, hk⟩ : ∃ k : Nat, wh % (m : Int) = (k : Int) := ⟨(wh % (m : Int)).toNat, by have := Int.emod_nonneg wh (show (m : Int) ≠ 0 by omega); omega⟩
  have hkm : k < m := by have := Int.emod_lt_of_pos wh (show (0 : Int) < (m : Int) by omega); omega
  obtain ⟨e, he⟩ : ∃ e, L[k]? = some e := ⟨_, List.getElem?_eq_getElem (by omega)⟩
  obtain ⟨kt, hkt⟩ : ∃ k : Nat, tt % (m : Int) = (k : Int) := ⟨(tt % (m : Int)).toNat, by have := Int.emod_nonneg tt (show (m : Int) ≠ 0 by omega); omega⟩
  have hktm : kt < m := by have := Int.emod_lt_of_pos tt (show (0 : Int) < (m : Int) by omega); omega
  obtain ⟨f, hf⟩ : ∃ f, L[kt]? = some f := ⟨_, List.getElem?_eq_getElem (by omega)⟩
  by_cases k1 : kd = 1
  · subst k1; exact does_push hW hI hE hB m Hm hL1 hL2 wh tt n x k hk hkm e he kt hkt hktm AL nl cl l hnl hAL
  by_cases k2 : kd = 2
  · subst k2; exact does_pop hW hI hE hB m Hm hL1 hL2 wh tt n x k hk hkm e he kt hkt hktm AL nl cl
  by_cases k3 : kd = 3
  · subst k3; exact does_at hW hI hE hB m Hm hL1 hL2 wh tt n x k hk hkm e he kt hkt hktm AL nl cl
  by_cases k4 : kd = 4
  · subst k4; exact does_put hW hI hE hB m Hm hL1 hL2 wh tt n x k hk hkm e he kt hkt hktm AL nl cl
  by_cases k5 : kd = 5
  · subst k5; exact does_drop hW hI hE hB m Hm hL1 hL2 wh tt n x k hk hkm e he kt hkt hktm AL nl cl
  by_cases k6 : kd = 6
  · subst k6
    cases e with
    | none => exact does_tell0 hW hI hE hB m Hm hL1 hL2 wh tt n x k hk hkm he kt hkt hktm AL nl cl
    | some a => exact does_tell1 hW hI hE hB m Hm hL1 hL2 wh tt n x k hk hkm a he kt hkt hktm AL nl cl
  by_cases k7 : kd = 7
  · subst k7
    cases e with
    | none => exact does_walk0 hW hI hE hB m Hm hL1 hL2 wh tt n x k hk hkm he kt hkt hktm AL nl cl
    | some a => exact does_walk1 hW hI hE hB m Hm hL1 hL2 wh tt n x k hk hkm a he kt hkt hktm AL nl cl
  by_cases k8 : kd = 8
  · subst k8; exact does_move hW hI hE hB m Hm hL1 hL2 wh tt n x k hk hkm e he kt hkt hktm f hf AL nl cl
  exact does_none hW hI hE hB m Hm hL1 hL2 wh tt n x k hk hkm e he kt hkt hktm AL nl cl kd (by omega)
structure WQ (B0 wb n1 : Nat) (xs : List Value) (A1 : Option Addr) (c1 : Nat) (g1 : Option Nat) (n2 : Nat) (ys : List Value) (A2 : Option Addr) (c2 : Nat) (g2 : Option Nat) (w : World) : Prop where
  bl : Bl w wb tW #[.slice A1 n1 c1, .slice A2 n2 c2]
  o1 : Ow w tPR 1 A1 n1 c1 xs g1
  o2 : Ow w tPM 1 A2 n2 c2 ys g2
  n0 : B0 ≤ wb
  k1 : ∀ b, g1 = some b → B0 ≤ b
  k2 : ∀ b, g2 = some b → B0 ≤ b
section
variable {B0 wb n1 n2 : Nat} {xs ys : List Value} {A1 : Option Addr} {c1 : Nat} {g1 : Option Nat} {A2 : Option Addr} {c2 : Nat} {g2 : Option Nat} {w : World}
theorem WQ.fr0 {w' : World} (h : WQ B0 wb n1 xs A1 c1 g1 n2 ys A2 c2 g2 w) (hf : Fr (fun _ => False) w w') : WQ B0 wb n1 xs A1 c1 g1 n2 ys A2 c2 g2 w' :=
  ⟨h.bl.fr hf id, h.o1.fr hf (fun _ _ => id), h.o2.fr hf (fun _ _ => id), h.n0, h.k1, h.k2⟩
/-- One more of the one kind. -/
theorem WQ.more1 {v : Value} {A3 : Option Addr} {c3 : Nat} {g3 : Option Nat} {wx w3 : World} (h : WQ B0 wb n1 xs A1 c1 g1 n2 ys A2 c2 g2 w) (hB : B0 ≤ w.heap.size) (hx : Fr (fun _ => False) w wx) (h3 : Ow w3 tPR 1 A3 (n1 + 1) c3 (xs ++ [v]) g3)
    (hf : Fr (fun k => some k = g1) wx w3) (hg : g3 = g1 ∨ ∃ b, g3 = some b ∧ wx.heap.size ≤ b) :
    WQ B0 wb (n1 + 1) (xs ++ [v]) A3 c3 g3 n2 ys A2 c2 g2 (w3.setCell ⟨wb, 0, none⟩ (.slice A3 (n1 + 1) c3)) ∧ Fr (fun k => some k = g1 ∨ k = wb) w (w3.setCell ⟨wb, 0, none⟩ (.slice A3 (n1 + 1) c3)) ∧ Bl w3 wb tW #[.slice A1 n1 c1, .slice A2 n2 c2] := by
  have hx' := h.fr0 hx
  have hw3 : Bl w3 wb tW #[.slice A1 n1 c1, .slice A2 n2 c2] := hx'.bl.fr hf fun e => by
    have h1 := hx'.o1
    rw [← e] at h1
    obtain ⟨cs, hc⟩ := h1.ty
    exact absurd (hx'.bl.same hc).2 (by decide)
  have hsx := hx.size
  have hs3 := hf.size
  have hset : Fr (fun k => k = wb) w3 (w3.setCell ⟨wb, 0, none⟩ (.slice A3 (n1 + 1) c3)) := (Fr.refl _ _).setAt _
  refine ⟨⟨hw3.set 0 _, h3.fr hset fun b hb e => ?_, (hx'.o2.fr hf fun b hb e => ?_).fr hset fun b hb e => ?_, h.n0, ?_, h.k2⟩, ?_, hw3⟩
  · rw [hb, e] at h3
    obtain ⟨cs, hc⟩ := h3.ty
    exact absurd (hw3.same hc).2 (by decide)
  · have h1 := hx'.o1
    have h2 := hx'.o2
    rw [← e] at h1
    rw [hb] at h2
    obtain ⟨cs, hc⟩ := h1.ty
    obtain ⟨cs', hc'⟩ := h2.ty
    exact absurd (hc.same hc').2 (by decide)
  · have h2 := hx'.o2
    rw [hb, e] at h2
    obtain ⟨cs', hc'⟩ := h2.ty
    exact absurd (hx'.bl.same hc').2 (by decide)
  · rcases hg with hg | ⟨b, hg, hb⟩
    · rw [hg]; exact h.k1
    · rw [hg]; intro b' e; cases e; omega
  · exact ((hx.weak _).comp hf fun i _ e => .inl e).comp hset fun i _ e => .inr e
theorem WQ.more2 {v : Value} {A3 : Option Addr} {c3 : Nat} {g3 : Option Nat} {wx w3 : World} (h : WQ B0 wb n1 xs A1 c1 g1 n2 ys A2 c2 g2 w) (hB : B0 ≤ w.heap.size) (hx : Fr (fun _ => False) w wx) (h3 : Ow w3 tPM 1 A3 (n2 + 1) c3 (ys ++ [v]) g3)
    (hf : Fr (fun k => some k = g2) wx w3) (hg : g3 = g2 ∨ ∃ b, g3 = some b ∧ wx.heap.size ≤ b) :
    WQ B0 wb n1 xs A1 c1 g1 (n2 + 1) (ys ++ [v]) A3 c3 g3 (w3.setCell ⟨wb, 1, none⟩ (.slice A3 (n2 + 1) c3)) ∧ Fr (fun k => some k = g2 ∨ k = wb) w (w3.setCell ⟨wb, 1, none⟩ (.slice A3 (n2 + 1) c3)) ∧ Bl w3 wb tW #[.slice A1 n1 c1, .slice A2 n2 c2] := by
  have hx' := h.fr0 hx
  have hw3 : Bl w3 wb tW #[.slice A1 n1 c1, .slice A2 n2 c2] := hx'.bl.fr hf fun e => by
    have h1 := hx'.o2
    rw [← e] at h1
    obtain ⟨cs, hc⟩ := h1.ty
    exact absurd (hx'.bl.same hc).2 (by decide)
  have hsx := hx.size
  have hs3 := hf.size
  have hset : Fr (fun k => k = wb) w3 (w3.setCell ⟨wb, 1, none⟩ (.slice A3 (n2 + 1) c3)) := (Fr.refl _ _).setAt _
  refine ⟨⟨hw3.set 1 _, (hx'.o1.fr hf fun b hb e => ?_).fr hset fun b hb e => ?_, h3.fr hset fun b hb e => ?_, h.n0, h.k1, ?_⟩, ?_, hw3⟩
  · have h1 := hx'.o1
    have h2 := hx'.o2
    rw [← e] at h2
    rw [hb] at h1
    obtain ⟨cs, hc⟩ := h1.ty
    obtain ⟨cs', hc'⟩ := h2.ty
    exact absurd (hc.same hc').2 (by decide)
  · have h2 := hx'.o1
    rw [hb, e] at h2
    obtain ⟨cs', hc'⟩ := h2.ty
    exact absurd (hx'.bl.same hc').2 (by decide)
  · rw [hb, e] at h3
    obtain ⟨cs, hc⟩ := h3.ty
    exact absurd (hw3.same hc).2 (by decide)
  · rcases hg with hg | ⟨b, hg, hb⟩
    · rw [hg]; exact h.k2
    · rw [hg]; intro b' e; cases e; omega
  · exact ((hx.weak _).comp hf fun i _ e => .inl e).comp hset fun i _ e => .inr e
theorem WQ.old1 (h : WQ B0 wb n1 xs A1 c1 g1 n2 ys A2 c2 g2 w) : ∀ i, (some i = g1 ∨ i = wb) → B0 ≤ i := by
  rintro i (e | rfl)
  · exact h.k1 i e.symm
  · exact h.n0
theorem WQ.old2 (h : WQ B0 wb n1 xs A1 c1 g1 n2 ys A2 c2 g2 w) : ∀ i, (some i = g2 ∨ i = wb) → B0 ≤ i := by
  rintro i (e | rfl)
  · exact h.k2 i e.symm
  · exact h.n0

/-- What turns is no ring, no numbers, no document's ring. -/
def Big (S : Nat → Prop) (w : World) : Prop := ∀ x, S x → ∃ t cs, Bl w x t cs ∧ ¬ (t = tRing ∨ t = tInt ∨ t = tRef)
theorem WQ.big1 (h : WQ B0 wb n1 xs A1 c1 g1 n2 ys A2 c2 g2 w) : Big (fun k => some k = g1 ∨ k = wb) w := by
  rintro x (e | rfl)
  · obtain ⟨cs, hc⟩ := Ow.ty8 h.o1 e.symm
    exact ⟨_, cs, hc, by decide⟩
  · exact ⟨_, _, h.bl, by decide⟩
theorem WQ.big2 (h : WQ B0 wb n1 xs A1 c1 g1 n2 ys A2 c2 g2 w) : Big (fun k => some k = g2 ∨ k = wb) w := by
  rintro x (e | rfl)
  · obtain ⟨cs, hc⟩ := Ow.ty8 h.o2 e.symm
    exact ⟨_, cs, hc, by decide⟩
  · exact ⟨_, _, h.bl, by decide⟩
end
section
variable {B0 wb : Nat} {L : List (Option RE)} {A1 : Option Addr} {c1 : Nat} {g1 : Option Nat} {A2 : Option Addr} {c2 : Nat} {g2 : Option Nat} {w w' : World} {S : Nat → Prop}
theorem PW.toQ (h : PW B0 wb L A1 c1 g1 A2 c2 g2 w) {m : Nat} (hm : L.length = m) : WQ B0 wb m (L.map ptrP) A1 c1 g1 m (L.map ptrQ) A2 c2 g2 w := by
  subst hm; exact ⟨h.bl, h.o1, h.o2, h.n0, h.n1, h.n2⟩
theorem WQ.toP {m : Nat} (h : WQ B0 wb m (L.map ptrP) A1 c1 g1 m (L.map ptrQ) A2 c2 g2 w) (hm : L.length = m) : PW B0 wb L A1 c1 g1 A2 c2 g2 w := by
  subst hm; exact ⟨h.bl, h.o1, h.o2, h.n0, h.k1, h.k2⟩
theorem RW.frB (h : RW B0 w L) (hf : Fr S w w') (hS : Big S w) : RW B0 w' L := h.fr hf fun a ha b hb hs => by
  obtain ⟨t, cs, hc, ht⟩ := hS b hs
  obtain ⟨t', cs', hc', ht'⟩ := MixE.ty3 (h.mix a ha) hb
  have := (hc.same hc').2
  subst this
  exact ht ht'
theorem MixE.frB {a : RE} (h : MixE w a) (hf : Fr S w w') (hS : Big S w) : MixE w' a := Mix.fr h hf fun b hb hs => by
  obtain ⟨t, cs, hc, ht⟩ := hS b hs
  obtain ⟨t', cs', hc', ht'⟩ := MixE.ty3 h hb
  have := (hc.same hc').2
  subst this
  exact ht ht'
/-- One more. -/
theorem RW.more {a : RE} (h : RW B0 w L) (hm : MixE w a) (hn : ∀ c, some c ∈ L → ∀ b, a.foot b → ¬ c.foot b) (hl : ∀ b, a.foot b → B0 ≤ b) : RW B0 w (L ++ [some a]) := by
  have hc : ∀ x, some x ∈ L ++ [some a] → some x ∈ L ∨ x = a := fun x hx => by
    rcases List.mem_append.1 hx with hx | hx
    · exact .inl hx
    · exact .inr (by simpa using hx)
  have hg : ∀ (i : Nat) (x : RE), (L ++ [some a])[i]? = some (some x) → L[i]? = some (some x) ∨ (i = L.length ∧ x = a) := fun i x hx => by
    rcases Nat.lt_or_ge i L.length with hi | hi
    · rw [List.getElem?_append_left hi] at hx; exact .inl hx
    · rw [List.getElem?_append_right hi] at hx
      rcases Nat.lt_or_ge 0 (i - L.length) with h0 | h0
      · rw [List.getElem?_eq_none_iff.2 (by simp; omega)] at hx; cases hx
      · have hi0 : i - L.length = 0 := by omega
        rw [hi0] at hx
        cases hx
        exact .inr ⟨by omega, rfl⟩
  refine ⟨fun x hx => ?_, fun i j x y hx hy hij b h1 h2 => ?_, fun x hx => ?_⟩
  · rcases hc x hx with hx | rfl
    · exact h.mix x hx
    · exact hm
  · rcases hg i x hx with hx1 | ⟨i1, x1⟩
    · rcases hg j y hy with hy1 | ⟨j1, y1⟩
      · exact h.sep i j x y hx1 hy1 hij b h1 h2
      · exact hn x (List.mem_of_getElem? hx1) b (y1 ▸ h2) h1
    · rcases hg j y hy with hy1 | ⟨j1, y1⟩
      · exact hn y (List.mem_of_getElem? hy1) b (x1 ▸ h1) h2
      · exact absurd (i1.trans j1.symm) hij
  · rcases hc x hx with hx | rfl
    · exact h.lo x hx
    · exact hl
theorem RW.moreN (h : RW B0 w L) : RW B0 w (L ++ [none]) := by
  have hc : ∀ x : RE, some x ∈ L ++ [none] → some x ∈ L := fun x hx => by
    rcases List.mem_append.1 hx with hx | hx
    · exact hx
    · simp at hx
  have hg : ∀ (i : Nat) (x : RE), (L ++ [none])[i]? = some (some x) → L[i]? = some (some x) := fun i x hx => by
    rcases Nat.lt_or_ge i L.length with hi | hi
    · rw [List.getElem?_append_left hi] at hx; exact hx
    · rw [List.getElem?_append_right hi] at hx
      rcases Nat.lt_or_ge 0 (i - L.length) with h0 | h0
      · rw [List.getElem?_eq_none_iff.2 (by simp; omega)] at hx; cases hx
      · have hi0 : i - L.length = 0 := by omega
        rw [hi0] at hx
        cases hx
  exact ⟨fun x hx => h.mix x (hc x hx), fun i j x y hx hy => h.sep i j x y (hg i x hx) (hg j y hy), fun x hx => h.lo x (hc x hx)⟩
theorem Even.more {a : RE} (h : Even L) (ha : a.xs = a.ys) : Even (L ++ [some a]) := fun x hx => by
  rcases List.mem_append.1 hx with hx | hx
  · exact h x hx
  · have : x = a := by simpa using hx
    rw [this]; exact ha
theorem Even.moreN (h : Even L) : Even (L ++ [none]) := fun x hx => by
  rcases List.mem_append.1 hx with hx | hx
  · exact h x hx
  · simp at hx
theorem infoPB : (Try.prog.info? 24).map (fun i => (i.zero, i.size, i.bytes)) = some (some (.pointer none), 1, 8) := by kernel_rfl
theorem infoPM : (Try.prog.info? 49).map (fun i => (i.zero, i.size, i.bytes)) = some (some (.pointer none), 1, 8) := by kernel_rfl
theorem Sl.oneAt {w : World} {k : Nat} {v : Value} {t : TypeId} (h : k = w.heap.size) : Sl (w.alloc (.cells #[v] t)) 1 (some ⟨k, 0, none⟩) 1 [v] := by subst h; exact sl_one _ _ _
/-- Two fresh rings. -/
theorem mix_new {p q room : Nat} (h1 : RingAt w p none 0 none ⟨room, 0, [], []⟩) (h2 : RefI w q none room []) (hne : p ≠ q) : MixE w ⟨p, q, none, none, room, [], []⟩ :=
  ⟨⟨_, _, _, rfl, rfl, h1⟩, h2, fun b h1 h2 => by
    rcases h1 with rfl | h1
    · rcases h2 with h2 | h2
      · exact hne h2
      · cases h2
    · cases h1⟩
theorem foot_fresh {p q room : Nat} {b : Nat} (h : RE.foot ⟨p, q, none, none, room, [], []⟩ b) : b = p ∨ b = q := by
  rcases h with (h | h) | (h | h)
  · exact .inl h
  · cases h
  · exact .inr h
  · cases h
end
end Go.Proofs.Yteleakbbppbnnaa
