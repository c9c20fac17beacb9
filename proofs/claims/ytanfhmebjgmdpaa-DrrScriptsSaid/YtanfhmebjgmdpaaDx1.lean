/-
  bazaarref16.Drr: the document's server: how it lies in memory.
-/
import Derived.Test.YtanfhmebjgmdpaaDr3
namespace Go.Proofs.Ytanfhmebjgmdpaa
open Go.RowKit
set_option linter.unusedVariables false
abbrev tRD : TypeId := 110
abbrev tInt_ : TypeId := 3
abbrev tInts_ : TypeId := 30
def iv_ (x : Int) : Value := .int .i64 x
/-- A queue of the document's: its list of things, its list of costs (where they lie), what they hold, its deficit. -/
structure DQ where
  tA : Option Addr
  tc : Nat
  tg : Option Nat
  cA : Option Addr
  cc : Nat
  cg : Option Nat
  things : List (Int × Int)
  df : Int
def DQ.foot (l : DQ) : Nat → Prop := fun b => l.tg = some b ∨ l.cg = some b
/-- The document's server. -/
structure DR where
  quantum : Nat
  room : Nat
  lines : List DQ
  at_ : Int
  vis : Bool
/-- Where its rows lie. -/
structure DB where
  tA : Option Addr
  tc : Nat
  tg : Option Nat
  cA : Option Addr
  cc : Nat
  cg : Option Nat
  dA : Option Addr
  dc : Nat
  dg : Option Nat
def thdr (l : DQ) : Value := .slice l.tA l.things.length l.tc
def chdr (l : DQ) : Value := .slice l.cA l.things.length l.cc
def tvals (l : DQ) : List Value := l.things.map fun x => iv_ x.1
def cvals (l : DQ) : List Value := l.things.map fun x => iv_ x.2
def dfoot (q : Nat) (b : DB) (s : DR) : Nat → Prop := fun x => x = q ∨ b.tg = some x ∨ b.cg = some x ∨ b.dg = some x ∨ ∃ l ∈ s.lines, l.foot x
def dcells (b : DB) (s : DR) : Array Value := #[.int .i64 (s.lines.length : Int), .int .i64 (s.room : Int), .int .i64 (s.quantum : Int), .slice b.tA s.lines.length b.tc, .slice b.cA s.lines.length b.cc, .slice b.dA s.lines.length b.dc, .int .i64 s.at_, .bool s.vis]
structure DAt (w : World) (q : Nat) (b : DB) (s : DR) : Prop where
  bl : Bl w q tRD (dcells b s)
  ot : Ow w tInts_ 1 b.tA s.lines.length b.tc (s.lines.map thdr) b.tg
  oc : Ow w tInts_ 1 b.cA s.lines.length b.cc (s.lines.map chdr) b.cg
  od : Ow w tInt_ 1 b.dA s.lines.length b.dc (s.lines.map fun l => iv_ l.df) b.dg
  lt : ∀ l ∈ s.lines, Ow w tInt_ 1 l.tA l.things.length l.tc (tvals l) l.tg
  lc : ∀ l ∈ s.lines, Ow w tInt_ 1 l.cA l.things.length l.cc (cvals l) l.cg
  tc : ∀ x, b.tg = some x → b.cg ≠ some x
  dl : ∀ l ∈ s.lines, ∀ x, b.dg = some x → ¬ l.foot x
  own : ∀ l ∈ s.lines, ∀ x, l.tg = some x → l.cg ≠ some x
  ap : ∀ (i j : Nat) (l m : DQ), s.lines[i]? = some l → s.lines[j]? = some m → i ≠ j → ∀ x, l.foot x → ¬ m.foot x
section
variable {w w' : World} {q : Nat} {b : DB} {s : DR} {S : Nat → Prop}
theorem DAt.fr (h : DAt w q b s) (hf : Fr S w w') (hS : ∀ x, dfoot q b s x → ¬ S x) : DAt w' q b s :=
  ⟨h.bl.fr hf (hS _ (.inl rfl)), h.ot.fr hf (fun x hx => hS x (.inr (.inl hx))), h.oc.fr hf (fun x hx => hS x (.inr (.inr (.inl hx)))), h.od.fr hf (fun x hx => hS x (.inr (.inr (.inr (.inl hx))))),
    fun l hl => (h.lt l hl).fr hf (fun x hx => hS x (.inr (.inr (.inr (.inr ⟨l, hl, .inl hx⟩))))), fun l hl => (h.lc l hl).fr hf (fun x hx => hS x (.inr (.inr (.inr (.inr ⟨l, hl, .inr hx⟩))))), h.tc, h.dl, h.own, h.ap⟩
theorem DAt.quiet (h : DAt w q b s) (hf : Fr (fun _ => False) w w') : DAt w' q b s := h.fr hf fun _ _ => id
theorem DAt.lt_ (h : DAt w q b s) {x : Nat} (hx : dfoot q b s x) : x < w.heap.size := by
  rcases hx with rfl | hx | hx | hx | ⟨l, hl, hx | hx⟩
  · exact h.bl.lt
  · exact h.ot.lt x hx
  · exact h.oc.lt x hx
  · exact h.od.lt x hx
  · exact (h.lt l hl).lt x hx
  · exact (h.lc l hl).lt x hx
theorem Ow.tyD {e : TypeId} {size n c : Nat} {A : Option Addr} {xs : List Value} {g : Option Nat} (h : Ow w e size A n c xs g) {b : Nat} (hb : g = some b) : ∃ cs, Bl w b e cs := by
  subst hb
  rcases h.2 with ⟨_, _, _, h⟩ | ⟨b', o, cur, hA, hg, hh, _⟩
  · cases h
  · cases hg; exact ⟨cur, hh⟩
/-- Each block of it has one of three types. -/
theorem DAt.ty (h : DAt w q b s) {x : Nat} (hx : dfoot q b s x) : ∃ t cs, Bl w x t cs ∧ (t = tRD ∨ t = tInts_ ∨ t = tInt_) := by
  rcases hx with rfl | hx | hx | hx | ⟨l, hl, hx | hx⟩
  · exact ⟨_, _, h.bl, .inl rfl⟩
  · obtain ⟨cs, hc⟩ := Ow.tyD h.ot hx
    exact ⟨_, cs, hc, .inr (.inl rfl)⟩
  · obtain ⟨cs, hc⟩ := Ow.tyD h.oc hx
    exact ⟨_, cs, hc, .inr (.inl rfl)⟩
  · obtain ⟨cs, hc⟩ := Ow.tyD h.od hx
    exact ⟨_, cs, hc, .inr (.inr rfl)⟩
  · obtain ⟨cs, hc⟩ := Ow.tyD (h.lt l hl) hx
    exact ⟨_, cs, hc, .inr (.inr rfl)⟩
  · obtain ⟨cs, hc⟩ := Ow.tyD (h.lc l hl) hx
    exact ⟨_, cs, hc, .inr (.inr rfl)⟩
theorem DAt.ne_t (h : DAt w q b s) : b.tg ≠ some q := fun e => by
  obtain ⟨cs, hc⟩ := Ow.tyD h.ot e
  exact absurd (h.bl.same hc).2 (by decide)
theorem DAt.ne_c (h : DAt w q b s) : b.cg ≠ some q := fun e => by
  obtain ⟨cs, hc⟩ := Ow.tyD h.oc e
  exact absurd (h.bl.same hc).2 (by decide)
theorem DAt.ne_d (h : DAt w q b s) : b.dg ≠ some q := fun e => by
  obtain ⟨cs, hc⟩ := Ow.tyD h.od e
  exact absurd (h.bl.same hc).2 (by decide)
theorem DAt.ne_l (h : DAt w q b s) {l : DQ} (hl : l ∈ s.lines) : ¬ l.foot q := by
  rintro (e | e)
  · obtain ⟨cs, hc⟩ := Ow.tyD (h.lt l hl) e
    exact absurd (h.bl.same hc).2 (by decide)
  · obtain ⟨cs, hc⟩ := Ow.tyD (h.lc l hl) e
    exact absurd (h.bl.same hc).2 (by decide)
theorem DAt.tl (h : DAt w q b s) {l : DQ} (hl : l ∈ s.lines) {x : Nat} (hx : b.tg = some x) : ¬ l.foot x := by
  obtain ⟨cs, hc⟩ := Ow.tyD h.ot hx
  rintro (e | e)
  · obtain ⟨cs', hc'⟩ := Ow.tyD (h.lt l hl) e
    exact absurd (hc.same hc').2 (by decide)
  · obtain ⟨cs', hc'⟩ := Ow.tyD (h.lc l hl) e
    exact absurd (hc.same hc').2 (by decide)
theorem DAt.cl (h : DAt w q b s) {l : DQ} (hl : l ∈ s.lines) {x : Nat} (hx : b.cg = some x) : ¬ l.foot x := by
  obtain ⟨cs, hc⟩ := Ow.tyD h.oc hx
  rintro (e | e)
  · obtain ⟨cs', hc'⟩ := Ow.tyD (h.lt l hl) e
    exact absurd (hc.same hc').2 (by decide)
  · obtain ⟨cs', hc'⟩ := Ow.tyD (h.lc l hl) e
    exact absurd (hc.same hc').2 (by decide)
theorem DAt.td (h : DAt w q b s) {x : Nat} (hx : b.tg = some x) : b.dg ≠ some x := fun e => by
  obtain ⟨cs, hc⟩ := Ow.tyD h.ot hx
  obtain ⟨cs', hc'⟩ := Ow.tyD h.od e
  exact absurd (hc.same hc').2 (by decide)
theorem DAt.cd (h : DAt w q b s) {x : Nat} (hx : b.cg = some x) : b.dg ≠ some x := fun e => by
  obtain ⟨cs, hc⟩ := Ow.tyD h.oc hx
  obtain ⟨cs', hc'⟩ := Ow.tyD h.od e
  exact absurd (hc.same hc').2 (by decide)
def DR.put (s : DR) (i : Nat) (l : DQ) : DR := { s with lines := s.lines.set i l }
theorem DR.put_len (s : DR) (i : Nat) (l : DQ) : (s.put i l).lines.length = s.lines.length := by simp [DR.put]
/-- Its numbers At and Visited alone. -/
theorem DAt.mark (h : DAt w q b s) (k : Int) (v : Bool) (hl : Bl w' q tRD (dcells b { s with at_ := k, vis := v })) (hf : Fr (fun x => x = q) w w') : DAt w' q b { s with at_ := k, vis := v } :=
  ⟨hl, h.ot.fr hf (fun x hx e => h.ne_t (e ▸ hx)), h.oc.fr hf (fun x hx e => h.ne_c (e ▸ hx)), h.od.fr hf (fun x hx e => h.ne_d (e ▸ hx)), fun l hl => (h.lt l hl).fr hf (fun x hx e => h.ne_l hl (e ▸ .inl hx)), fun l hl => (h.lc l hl).fr hf (fun x hx e => h.ne_l hl (e ▸ .inr hx)), h.tc, h.dl, h.own, h.ap⟩
/-- A line turned. -/
theorem DAt.line {i : Nat} {l l' : DQ} (h : DAt w q b s) (hl : s.lines[i]? = some l) (hf : Fr S w w') (hS : ∀ x, x < w.heap.size → S x → l.foot x ∨ b.tg = some x ∨ b.cg = some x ∨ b.dg = some x)
    (ot : Ow w' tInts_ 1 b.tA s.lines.length b.tc ((s.lines.set i l').map thdr) b.tg) (oc : Ow w' tInts_ 1 b.cA s.lines.length b.cc ((s.lines.set i l').map chdr) b.cg) (od : Ow w' tInt_ 1 b.dA s.lines.length b.dc ((s.lines.set i l').map fun l => iv_ l.df) b.dg)
    (lt : Ow w' tInt_ 1 l'.tA l'.things.length l'.tc (tvals l') l'.tg) (lc : Ow w' tInt_ 1 l'.cA l'.things.length l'.cc (cvals l') l'.cg) (own : ∀ x, l'.tg = some x → l'.cg ≠ some x) (hn : ∀ x, l'.foot x → l.foot x ∨ w.heap.size ≤ x) : DAt w' q b (s.put i l') := by
  have hm : l ∈ s.lines := List.mem_of_getElem? hl
  have hi : i < s.lines.length := (List.getElem?_eq_some_iff.1 hl).1
  have hq : ¬ S q := fun e => by
    rcases hS q h.bl.lt e with e | e | e | e
    · exact h.ne_l hm e
    · exact h.ne_t e
    · exact h.ne_c e
    · exact h.ne_d e
  have hc : ∀ m, m ∈ s.lines.set i l' → m = l' ∨ ∃ j, j ≠ i ∧ s.lines[j]? = some m := fun m hm => by
    obtain ⟨j, hj⟩ := List.mem_iff_getElem?.1 hm
    by_cases hji : j = i
    · subst hji
      rw [List.getElem?_set_self hi] at hj
      cases hj; exact .inl rfl
    · rw [List.getElem?_set_ne (fun e => hji e.symm)] at hj
      exact .inr ⟨j, hji, hj⟩
  have hold : ∀ j m, j ≠ i → s.lines[j]? = some m → ∀ x, m.foot x → ¬ S x := fun j m hji hj x hx hs => by
    have hmm : m ∈ s.lines := List.mem_of_getElem? hj
    rcases hS x (h.lt_ (.inr (.inr (.inr (.inr ⟨m, hmm, hx⟩))))) hs with e | e | e | e
    · exact h.ap j i m l hj hl hji x hx e
    · exact h.tl hmm e hx
    · exact h.cl hmm e hx
    · exact h.dl m hmm x e hx
  have hnew : ∀ j m, j ≠ i → s.lines[j]? = some m → ∀ x, l'.foot x → ¬ m.foot x := fun j m hji hj x hx hmx => by
    rcases hn x hx with e | e
    · exact h.ap j i m l hj hl hji x hmx e
    · have := h.lt_ (.inr (.inr (.inr (.inr ⟨m, List.mem_of_getElem? hj, hmx⟩))))
      omega
  refine ⟨?_, by rw [DR.put_len]; exact ot, by rw [DR.put_len]; exact oc, by rw [DR.put_len]; exact od, fun m hm' => ?_, fun m hm' => ?_, h.tc, fun m hm' x hx => ?_, fun m hm' => ?_, ?_⟩
  · have := h.bl.fr hf hq
    show Bl w' q tRD #[.int .i64 ((s.put i l').lines.length : Int), .int .i64 (s.room : Int), .int .i64 (s.quantum : Int), .slice b.tA (s.put i l').lines.length b.tc, .slice b.cA (s.put i l').lines.length b.cc, .slice b.dA (s.put i l').lines.length b.dc, .int .i64 s.at_, .bool s.vis]
    rw [DR.put_len]; exact this
  · rcases hc m hm' with rfl | ⟨j, hji, hj⟩
    · exact lt
    · exact (h.lt m (List.mem_of_getElem? hj)).fr hf fun x hx => hold j m hji hj x (.inl hx)
  · rcases hc m hm' with rfl | ⟨j, hji, hj⟩
    · exact lc
    · exact (h.lc m (List.mem_of_getElem? hj)).fr hf fun x hx => hold j m hji hj x (.inr hx)
  · rcases hc m hm' with rfl | ⟨j, hji, hj⟩
    · intro hfo
      rcases hn x hfo with e | e
      · exact h.dl l hm x hx e
      · have := h.od.lt x hx; omega
    · exact h.dl m (List.mem_of_getElem? hj) x hx
  · rcases hc m hm' with rfl | ⟨j, hji, hj⟩
    · exact own
    · exact h.own m (List.mem_of_getElem? hj)
  · intro j k m m' hj hk hjk x hx hx'
    have hj' : (s.lines.set i l')[j]? = some m := hj
    have hk' : (s.lines.set i l')[k]? = some m' := hk
    by_cases h1 : j = i
    · subst h1
      rw [List.getElem?_set_self hi] at hj'
      cases hj'
      rw [List.getElem?_set_ne hjk] at hk'
      exact hnew k m' (fun e => hjk e.symm) hk' x hx hx'
    · rw [List.getElem?_set_ne (fun e => h1 e.symm)] at hj'
      by_cases h2 : k = i
      · subst h2
        rw [List.getElem?_set_self hi] at hk'
        cases hk'
        exact hnew j m hjk hj' x hx' hx
      · rw [List.getElem?_set_ne (fun e => h2 e.symm)] at hk'
        exact h.ap j k m m' hj' hk' hjk x hx hx'
/-- The blocks of the server with a line turned. -/
theorem dfoot_put {i : Nat} {l l' : DQ} {n : Nat} (hl : s.lines[i]? = some l) (hn : ∀ x, l'.foot x → l.foot x ∨ n ≤ x) {x : Nat} (hx : x < n) (h : dfoot q b (s.put i l') x) : dfoot q b s x := by
  have hi : i < s.lines.length := (List.getElem?_eq_some_iff.1 hl).1
  rcases h with e | e | e | e | ⟨m, hm, e⟩
  · exact .inl e
  · exact .inr (.inl e)
  · exact .inr (.inr (.inl e))
  · exact .inr (.inr (.inr (.inl e)))
  · obtain ⟨j, hj⟩ := List.mem_iff_getElem?.1 hm
    have hj' : (s.lines.set i l')[j]? = some m := hj
    by_cases hji : i = j
    · subst hji
      rw [List.getElem?_set_self hi] at hj'
      cases hj'
      rcases hn x e with e | e
      · exact .inr (.inr (.inr (.inr ⟨l, List.mem_of_getElem? hl, e⟩)))
      · omega
    · rw [List.getElem?_set_ne hji] at hj'
      exact .inr (.inr (.inr (.inr ⟨m, List.mem_of_getElem? hj', e⟩)))
end
end Go.Proofs.Ytanfhmebjgmdpaa
