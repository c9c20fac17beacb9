/-
  HandlesNever: the table and the slice of notes, between two steps.
-/
import Derived.Test.YtcfpmnlpoihgfaaHi2
namespace Go.Proofs.Ytcfpmnlpoihgfaa
open Go.RowKit
set_option linter.unusedVariables false
set_option linter.unusedSimpArgs false
theorem TI.npart {w : World} {p room : Nat} {F : Nat → Prop} {s : TS} (h : TI w p room F s) {A : Option Addr} {n c : Nat} {l : List Nt} {g : Option Nat} (hA : NA w A n c l g) : ∀ b, g = some b → ¬ F b := by
  intro b hg hF
  obtain ⟨CA, cc, gc, FA, fc, gf, h, rfl⟩ := h
  have h1 := hA
  unfold NA at h1
  rw [hg] at h1
  obtain ⟨cs, hc⟩ := h1.typ
  rcases hF with e | e | e
  · subst e
    exact absurd (hc.same h.bl).2 (by decide)
  · have h2 := h.ow
    rw [e] at h2
    obtain ⟨ds, hd⟩ := h2.typ
    exact absurd (hc.same hd).2 (by decide)
  · have h2 := h.fr
    rw [e] at h2
    obtain ⟨ds, hd⟩ := h2.typ
    exact absurd (hc.same hd).2 (by decide)
theorem TI.bpart {w : World} {p room : Nat} {F : Nat → Prop} {s : TS} (h : TI w p room F s) {b : Nat} {t : TypeId} {cs : Array Value} (hB : Bl w b t cs) (h1 : t ≠ tTab) (h2 : t ≠ tCel) (h3 : t ≠ 3) : ¬ F b := by
  intro hF
  obtain ⟨CA, cc, gc, FA, fc, gf, h, rfl⟩ := h
  rcases hF with e | e | e
  · subst e
    exact h1 (hB.same h.bl).2
  · have h2' := h.ow
    rw [e] at h2'
    obtain ⟨ds, hd⟩ := h2'.typ
    exact h2 (hB.same hd).2
  · have h2' := h.fr
    rw [e] at h2'
    obtain ⟨ds, hd⟩ := h2'.typ
    exact h3 (hB.same hd).2
/-- The table and the notes, told. -/
structure NS (w : World) (p room most n : Nat) (A : Option Addr) (c : Nat) (s : TS) (l : List Nt) (g : Option Nat) (F : Nat → Prop) (wr : World) : Prop where
  ti : TI wr p room F s
  new : ∀ k, F k → w.heap.size ≤ k
  fr : Fr (fun _ => False) w wr
  nv : NV s room most l
  len : l.length = n
  na : NA wr A n c l g
  ng : ∀ b, g = some b → w.heap.size ≤ b
def NI (w : World) (p room most n : Nat) (A : Option Addr) (c : Nat) (wr : World) : Prop := ∃ s l g F, NS w p room most n A c s l g F wr
section
variable {w wr w' : World} {p room most n : Nat} {A : Option Addr} {c : Nat} {s : TS} {l : List Nt} {g : Option Nat} {F : Nat → Prop}
theorem NS.step (h : NS w p room most n A c s l g F wr) (hf : Fr (fun _ => False) wr w') : NS w p room most n A c s l g F w' :=
  ⟨h.ti.step hf (fun _ _ => id), h.new, h.fr.trans hf, h.nv, h.len, h.na.fr hf (fun _ _ => id), h.ng⟩
theorem NI.step (h : NI w p room most n A c wr) (hf : Fr (fun _ => False) wr w') : NI w p room most n A c w' := by
  obtain ⟨s, l, g, F, h⟩ := h; exact ⟨s, l, g, F, h.step hf⟩
theorem NI.fr (h : NI w p room most n A c wr) : Fr (fun _ => False) w wr := by
  obtain ⟨s, l, g, F, h⟩ := h; exact h.fr
/-- The table has turned; the slice has not. -/
theorem NS.out (h : NS w p room most n A c s l g F wr) {s' : TS} (hO : TOut wr p room F s' w') : ∃ F', TI w' p room F' s' ∧ (∀ k, F' k → w.heap.size ≤ k) ∧ Fr (fun _ => False) w w' ∧ NA w' A n c l g := by
  have hO2 := hO
  obtain ⟨F', h1, h2, h3⟩ := WI.out h.new h.fr hO
  obtain ⟨F'', -, h4, -⟩ := hO2
  exact ⟨F', h1, h2, h3, h.na.fr h4 (h.ti.npart h.na)⟩
/-- A store into the notes. -/
theorem NS.store {s' : TS} {F' : Nat → Prop} {l' : List Nt} {b o j : Nat} {u : Value} (hT : TI w' p room F' s') (hF : ∀ k, F' k → w.heap.size ≤ k) (hf : Fr (fun _ => False) w w') (hA : NA w' (some ⟨b, o, none⟩) n c l (some b)) (hb : w.heap.size ≤ b)
    (hj : j < n * 3) (hu : (ncells l).set j u = ncells l') (hl : l'.length = n) (hv : NV s' room most l') : NS w p room most n (some ⟨b, o, none⟩) c s' l' (some b) F' (w'.setCell ⟨b, o + j, none⟩ u) := by
  have h1 := Ow.put hA hj u
  rw [hu] at h1
  exact ⟨hT.step (S := fun k => k = b) ((Fr.refl _ _).setAt _) (fun k hk e => hT.npart hA b rfl (e ▸ hk)), hF, Fr.set (S := fun _ => False) hf (.inr hb) _, hv, hl, h1, fun b2 e => by cases e; exact hb⟩
theorem nset_x {l : List Nt} {k : Nat} {h x : Int} {gn : Bool} (hk : l[k]? = some (h, x, gn)) (y : Int) : (ncells l).set (k * 3 + 1) (.int .i64 y) = ncells (l.set k (h, y, gn)) := by
  obtain ⟨t0, t1, t2⟩ := ncells_at l k _ hk
  rw [ncells_set, set_same t0]
  refine (set_same ?_).symm
  rw [List.getElem?_set_ne (by omega)]
  exact t2
theorem nset_g {l : List Nt} {k : Nat} {h x : Int} {gn : Bool} (hk : l[k]? = some (h, x, gn)) (b : Bool) : (ncells l).set (k * 3 + 2) (.bool b) = ncells (l.set k (h, x, b)) := by
  obtain ⟨t0, t1, t2⟩ := ncells_at l k _ hk
  rw [ncells_set, set_same t0, set_same t1]
theorem nright (h : NI w p room most n A c wr) (h6 : n ≤ 100000) :
    Calls Try.prog 16 #[.pointer (some ⟨p, 0, none⟩), .slice A n c] wr fun e w' => e = .returned (.bool true) ∧ wr = w' := by
  obtain ⟨s, l, g, F, h⟩ := h
  exact right_any h.ti h.nv h.len h.na h6
theorem nleft (h : NI w p room most n A c wr) {lf : Nat} (hl : lf + n = room * most) :
    Calls Try.prog 10 #[.pointer (some ⟨p, 0, none⟩)] wr fun e w' => e = .returned (.int .i64 (lf : Int)) ∧ wr = w' := by
  obtain ⟨s, l, g, F, h⟩ := h
  have h1 := left_any h.ti
  have h2 := h.nv.left
  rw [h.len] at h2
  rw [show s.left = lf by omega] at h1
  exact h1
theorem NI.le (h : NI w p room most n A c wr) : n ≤ room * most := by
  obtain ⟨s, l, g, F, h⟩ := h
  have h2 := h.nv.left
  rw [h.len] at h2
  omega
/-- Behind an Add that went. -/
structure NAd (w : World) (p room most n : Nat) (A : Option Addr) (c : Nat) (x h : Int) (s : TS) (l : List Nt) (g : Option Nat) (F : Nat → Prop) (wr : World) : Prop where
  ti : TI wr p room F s
  new : ∀ k, F k → w.heap.size ≤ k
  fr : Fr (fun _ => False) w wr
  nv : NV s room most (l ++ [(h, x, false)])
  len : l.length = n
  na : NA wr A n c l g
  ng : ∀ b, g = some b → w.heap.size ≤ b
  ne : ∀ m ∈ l, m.1 ≠ h
def NAdd (w : World) (p room most n : Nat) (A : Option Addr) (c : Nat) (x h : Int) (wr : World) : Prop := ∃ s l g F, NAd w p room most n A c x h s l g F wr
/-- What is not of the table's types stays. -/
def Kept (wr w' : World) : Prop := ∀ (b : Nat) (t : TypeId) (cs : Array Value), Bl wr b t cs → t ≠ tTab → t ≠ tCel → t ≠ 3 → Bl w' b t cs
theorem TOut.kept {F : Nat → Prop} {s s' : TS} (hO : TOut wr p room F s' w') (hT : TI wr p room F s) : Kept wr w' := fun b t cs hB h1 h2 h3 => by
  obtain ⟨F'', -, h4, -⟩ := hO
  exact hB.fr h4 (hT.bpart hB h1 h2 h3)
theorem nadd (hI : NI w p room most n A c wr) (x : Int) (h6 : n ≤ 100000) :
    Calls Try.prog 11 #[.pointer (some ⟨p, 0, none⟩), .int .i64 x] wr fun e w' => (e = .returned (.tuple #[.int .i64 0, .int .i64 71]) ∧ wr = w') ∨ (∃ h, e = .returned (.tuple #[.int .i64 h, .int .i64 0]) ∧ NAdd w p room most n A c x h w' ∧ Kept wr w') := by
  obtain ⟨s, l, g, F, hI⟩ := hI
  by_cases hf : s.free = []
  · exact (add_full hI.ti x hf).mono fun e w' h => .inl h
  · have hlp := hI.nv.left_pos hI.ti.ok hf
    have hcl := cnt_le l
    have hln := hI.nv.len
    have hll := hI.len
    refine (add_ok hI.ti x hf (by omega) hlp).mono ?_
    rintro e w' ⟨at_, tu, ys, rfl, hA, hO⟩
    obtain ⟨F', h1, h2, h3, h4⟩ := hI.out hO
    obtain ⟨h5, h7⟩ := hI.nv.add hI.ti.ok hA hlp
    exact .inr ⟨_, rfl, ⟨_, l, g, F', h1, h2, h3, h5, hI.len, h4, hI.ng, h7⟩, hO.kept hI.ti⟩
theorem NAd.app {x h : Int} (hI : NAd w p room most n A c x h s l g F wr) {w3 : World} (hf : Fr (fun k => some k = g) wr w3) {A2 : Option Addr} {c2 : Nat} {g2 : Option Nat} (hO : Ow w3 tNote 3 A2 (n + 1) c2 (ncells l ++ [.int .i64 h, .int .i64 x, .bool false]) g2) (hg : g2 = g ∨ ∃ b, g2 = some b ∧ wr.heap.size ≤ b) : NI w p room most (n + 1) A2 c2 w3 := by
  have hs := hI.fr.size
  refine ⟨s, l ++ [(h, x, false)], g2, F, hI.ti.step hf (fun k hk e => hI.ti.npart hI.na k e.symm hk), hI.new, hI.fr.comp hf (fun i hi e => by have := hI.ng i e.symm; omega), hI.nv, by rw [List.length_append, hI.len]; rfl, by show Ow _ _ _ _ _ _ _ _; rw [ncells_app]; exact hO, fun b hb => ?_⟩
  rcases hg with e | ⟨b2, e, hb2⟩
  · exact hI.ng b (by rw [← e]; exact hb)
  · rw [e] at hb; cases hb; omega
theorem NI.begin {w w2 : World} {p room most : Nat} {F : Nat → Prop} (hf : Fr (fun _ => False) w w2) (hT : TI w2 p room F (newT room most)) (hF : ∀ k, F k → w.heap.size ≤ k) : NI w p room most 0 none 0 w2 :=
  ⟨_, [], none, F, hT, hF, hf, NV.new room most, rfl, Ow.nil_ _ _ _, fun b h => by cases h⟩
end
end Go.Proofs.Ytcfpmnlpoihgfaa
