/-
  disk.Disk: what a disk holds (DAt); asked, act, Sectors, Waiting, Power, Fuse, Acts.
-/
import Derived.Test.YtchajbiloaiekaaBy
import Derived.Test.YtchajbiloaiekaaRows
import Derived.WalkLawsBesides
import Derived.WalkSpells
import Derived.Deep.QuietTactic
import Derived.BigQuiet
import Derived.Deep.RegionHeld3
import Derived.Deep.DeepCutAuto
import Derived.Deep.DrawnRows
import Derived.Deep.MidRow
import Derived.Maps.OwnSet
namespace Go.Proofs.Ytchajbiloaiekaa
open Go.RowKit
set_option linter.unusedVariables false

abbrev tDisk : TypeId := 53
abbrev tSec : TypeId := 67
abbrev tWr : TypeId := 70
/-- A disk: its safe bytes, the writes that wait, its fuse, its acts. -/
structure DS where
  sf : List Nat
  row : List (Nat × List Nat)
  fuse : Int
  wr : Nat
  sy : Nat
def wcells (r : Nat × List Nat) : List Value := .int .i64 (r.1 : Int) :: r.2.map bn
/-- The number of the last write to a sector. -/
def lastOf : List (Nat × List Nat) → Nat → Option Nat
  | [], _ => none
  | r :: l, at_ => match lastOf l at_ with
    | some k => some (k + 1)
    | none => if r.1 = at_ then some 0 else none
structure DS.Ok (s : DS) (n : Nat) : Prop where
  n1 : 1 ≤ n
  n2 : n ≤ 65536
  len : s.sf.length = n * 64
  row : ∀ r ∈ s.row, r.1 < n ∧ r.2.length = 64
  f1 : -1 ≤ s.fuse
  f2 : s.fuse ≤ 9223372036854775807
  c1 : s.row.length ≤ s.wr
  c2 : s.wr ≤ 9000000000000000000
  c3 : s.sy ≤ 9000000000000000000
theorem kLast : Maps.Keyed Try.prog 3 := Maps.int_keyed Try.underlying3
/-- The map of the last writes. -/
def LastAt (w : World) (b : Nat) (row : List (Nat × List Nat)) : Prop :=
  ∃ (D : DataW Unit) (m : Nat), w.ownsMap Try.prog 3 (plainElem Try.prog 3) b m D ∧ m ≤ row.length ∧
    ∀ k : Nat, k < 65536 → Maps.has D (.int .i64 (k : Int)) = (lastOf row k).isSome ∧ ∀ j, lastOf row k = some j → D.atKey (.int .i64 (k : Int)) (.lit (.int .i64 0)) = .lit (.int .i64 (j : Int))
/-- A disk lies at block p: its sectors in gs, its row in gr, its map in mb. -/
structure DAt (w : World) (p : Nat) (n : Nat) (SA : Option Addr) (sc : Nat) (gs : Option Nat) (RA : Option Addr) (rc : Nat) (gr : Option Nat) (mb : Nat) (s : DS) : Prop where
  bl : Bl w p tDisk #[.slice SA n sc, .slice RA s.row.length rc, .map (some mb), .int .i64 s.fuse, .int .i64 (s.wr : Int), .int .i64 (s.sy : Int)]
  safe : Ow w tSec 64 SA n sc (s.sf.map bn) gs
  rows : Ow w tWr 65 RA s.row.length rc (s.row.flatMap wcells) gr
  last : LastAt w mb s.row
  ok : s.Ok n
/-- The blocks of a disk. -/
def dfoot (p : Nat) (gs gr : Option Nat) (mb : Nat) (k : Nat) : Prop := k = p ∨ gs = some k ∨ gr = some k ∨ k = mb
theorem LastAt.fr {w w' : World} {b : Nat} {row : List (Nat × List Nat)} {S : Nat → Prop} (h : LastAt w b row) (hf : Fr S w w') (hS : ¬ S b) : LastAt w' b row := by
  obtain ⟨D, m, ⟨es, clock, hb, r⟩, hm⟩ := h
  exact ⟨D, m, ⟨es, clock, (hf.block b (Array.getElem?_eq_some_iff.1 hb).1 hS).trans hb, r⟩, hm⟩
theorem LastAt.lt {w : World} {b : Nat} {row : List (Nat × List Nat)} (h : LastAt w b row) : b < w.heap.size := by
  obtain ⟨D, m, h, -⟩ := h; exact h.lt
theorem LastAt.ne {w : World} {b : Nat} {row : List (Nat × List Nat)} (h : LastAt w b row) {g : Nat} {t : TypeId} {cs : Array Value} (hb : Bl w g t cs) : b ≠ g := by
  obtain ⟨D, m, ⟨es, clock, hm, r⟩, -⟩ := h
  rintro rfl
  unfold Bl at hb
  rw [hm] at hb; cases hb
theorem Ow.ty {w : World} {e : TypeId} {size n c : Nat} {A : Option Addr} {xs : List Value} {b : Nat} (h : Ow w e size A n c xs (some b)) : ∃ cs, Bl w b e cs := by
  rcases h.2 with ⟨_, _, _, h⟩ | ⟨b', o, cur, hA, hg, hh, _⟩
  · cases h
  · cases hg; exact ⟨cur, hh⟩
section
variable {w w' : World} {p n : Nat} {SA : Option Addr} {sc : Nat} {gs : Option Nat} {RA : Option Addr} {rc : Nat} {gr : Option Nat} {mb : Nat} {s : DS}
theorem DAt.fr {S : Nat → Prop} (h : DAt w p n SA sc gs RA rc gr mb s) (hf : Fr S w w') (hS : ∀ k, dfoot p gs gr mb k → ¬ S k) : DAt w' p n SA sc gs RA rc gr mb s :=
  ⟨h.bl.fr hf (hS p (.inl rfl)), h.safe.fr hf (fun b hb => hS b (.inr (.inl hb))), h.rows.fr hf (fun b hb => hS b (.inr (.inr (.inl hb)))), h.last.fr hf (hS mb (.inr (.inr (.inr rfl)))), h.ok⟩
theorem DAt.lt (h : DAt w p n SA sc gs RA rc gr mb s) {k : Nat} (hk : dfoot p gs gr mb k) : k < w.heap.size := by
  rcases hk with rfl | hk | hk | rfl
  · exact h.bl.lt
  · exact h.safe.lt k hk
  · exact h.rows.lt k hk
  · exact h.last.lt
theorem DAt.nps (h : DAt w p n SA sc gs RA rc gr mb s) : gs ≠ some p := by
  intro e
  have h1 := h.safe
  rw [e] at h1
  obtain ⟨cs, hc⟩ := h1.ty
  exact absurd (h.bl.same hc).2 (by decide)
theorem DAt.npr (h : DAt w p n SA sc gs RA rc gr mb s) : gr ≠ some p := by
  intro e
  have h1 := h.rows
  rw [e] at h1
  obtain ⟨cs, hc⟩ := h1.ty
  exact absurd (h.bl.same hc).2 (by decide)
theorem DAt.nsr (h : DAt w p n SA sc gs RA rc gr mb s) {b : Nat} (e : gs = some b) : gr ≠ some b := by
  intro e2
  have h1 := h.safe; have h2 := h.rows
  rw [e] at h1; rw [e2] at h2
  obtain ⟨cs, hc⟩ := h1.ty
  obtain ⟨ds, hd⟩ := h2.ty
  exact absurd (hc.same hd).2 (by decide)
theorem DAt.nmp (h : DAt w p n SA sc gs RA rc gr mb s) : mb ≠ p := h.last.ne h.bl
theorem DAt.nms (h : DAt w p n SA sc gs RA rc gr mb s) : gs ≠ some mb := by
  intro e
  have h1 := h.safe
  rw [e] at h1
  obtain ⟨cs, hc⟩ := h1.ty
  exact h.last.ne hc rfl
theorem DAt.nmr (h : DAt w p n SA sc gs RA rc gr mb s) : gr ≠ some mb := by
  intro e
  have h1 := h.rows
  rw [e] at h1
  obtain ⟨cs, hc⟩ := h1.ty
  exact h.last.ne hc rfl
end
/-- Block p is a disk of n sectors; its blocks are the F's. -/
def DI (w : World) (p n : Nat) (F : Nat → Prop) (s : DS) : Prop := ∃ SA sc gs RA rc gr mb, DAt w p n SA sc gs RA rc gr mb s ∧ F = dfoot p gs gr mb
/-- The disk behind a call that may turn it. -/
def DOut (w : World) (p n : Nat) (F : Nat → Prop) (s : DS) (w' : World) : Prop :=
  ∃ F', DI w' p n F' s ∧ Fr F w w' ∧ ∀ k, k < w.heap.size → F' k → F k
theorem DI.fr {w w' : World} {p n : Nat} {F : Nat → Prop} {s : DS} {S : Nat → Prop} (h : DI w p n F s) (hf : Fr S w w') (hS : ∀ k, F k → ¬ S k) : DI w' p n F s := by
  obtain ⟨SA, sc, gs, RA, rc, gr, mb, h, rfl⟩ := h
  exact ⟨SA, sc, gs, RA, rc, gr, mb, h.fr hf hS, rfl⟩
theorem DI.lt {w : World} {p n : Nat} {F : Nat → Prop} {s : DS} (h : DI w p n F s) {k : Nat} (hk : F k) : k < w.heap.size := by
  obtain ⟨SA, sc, gs, RA, rc, gr, mb, h, rfl⟩ := h
  exact h.lt hk
theorem DI.ok {w : World} {p n : Nat} {F : Nat → Prop} {s : DS} (h : DI w p n F s) : s.Ok n := by
  obtain ⟨SA, sc, gs, RA, rc, gr, mb, h, rfl⟩ := h
  exact h.ok
theorem DI.bl {w : World} {p n : Nat} {F : Nat → Prop} {s : DS} (h : DI w p n F s) : ∃ SA sc RA rc mb, Bl w p tDisk #[.slice SA n sc, .slice RA s.row.length rc, .map (some mb), .int .i64 s.fuse, .int .i64 (s.wr : Int), .int .i64 (s.sy : Int)] := by
  obtain ⟨SA, sc, gs, RA, rc, gr, mb, h, rfl⟩ := h
  exact ⟨_, _, _, _, _, h.bl⟩
theorem DOut.refl {w w' : World} {p n : Nat} {F : Nat → Prop} {s : DS} (h : DI w p n F s) (hf : Fr (fun _ => False) w w') : DOut w p n F s w' :=
  ⟨F, h.fr hf (fun _ _ => id), hf.weak _, fun _ _ h => h⟩
theorem DOut.trans {w w1 w2 : World} {p n : Nat} {F F1 : Nat → Prop} {s : DS} (hf : Fr F w w1) (hF : ∀ k, k < w.heap.size → F1 k → F k) (h : DOut w1 p n F1 s w2) : DOut w p n F s w2 := by
  obtain ⟨F2, h2, f2, k2⟩ := h
  exact ⟨F2, h2, hf.comp f2 hF, fun k hk h => hF k hk (k2 k (Nat.lt_of_lt_of_le hk hf.size) h)⟩

/-! The small calls. -/
/-- May the disk be asked? -/
def askN (s : DS) : Int := if s.fuse = 0 then 80 else 0
theorem asked_any {w : World} {p n : Nat} {F : Nat → Prop} {s : DS} (h : DI w p n F s) :
    Calls Try.prog 34 #[.pointer (some ⟨p, 0, none⟩)] w fun e w' => e = .returned (.int .i64 (askN s)) ∧ w = w' := by
  obtain ⟨SA, sc, RA, rc, mb, hb⟩ := h.bl
  have c3 : w.cell? ⟨p, 3, none⟩ = some (.int .i64 s.fuse) := hb.cell' rfl
  obtain ⟨f, hf⟩ : ∃ f, s.fuse = f := ⟨_, rfl⟩
  rw [hf] at c3
  unfold askN
  rw [hf]
  clear hb hf h
  by_cases h0 : f = 0
  · subst h0
    go_enter Try.func34, Try.ntmps34
    go_wp2
    go_ret
    exact ⟨rfl, rfl⟩
  · rw [if_neg h0]
    go_enter Try.func34, Try.ntmps34
    go_wp2
    go_ret
    exact ⟨rfl, rfl⟩
theorem sectors_any {w : World} {p n : Nat} {F : Nat → Prop} {s : DS} (h : DI w p n F s) :
    Calls Try.prog 23 #[.pointer (some ⟨p, 0, none⟩)] w fun e w' => e = .returned (.int .i64 (n : Int)) ∧ w = w' := by
  obtain ⟨SA, sc, RA, rc, mb, hb⟩ := h.bl
  have c0 : w.cell? ⟨p, 0, none⟩ = some (.slice SA n sc) := hb.cell' rfl
  clear hb h
  go_enter Try.func23, Try.ntmps23
  go_wp2
  go_ret
  exact ⟨rfl, rfl⟩
theorem waiting_any {w : World} {p n : Nat} {F : Nat → Prop} {s : DS} (h : DI w p n F s) :
    Calls Try.prog 21 #[.pointer (some ⟨p, 0, none⟩)] w fun e w' => e = .returned (.int .i64 (s.row.length : Int)) ∧ w = w' := by
  obtain ⟨SA, sc, RA, rc, mb, hb⟩ := h.bl
  have c0 : w.cell? ⟨p, 1, none⟩ = some (.slice RA s.row.length rc) := hb.cell' rfl
  clear hb h
  go_enter Try.func21, Try.ntmps21
  go_wp2
  go_ret
  exact ⟨rfl, rfl⟩
/-- An act is done. -/
def spend (f : Int) : Int := if f > 0 then f - 1 else f
end Go.Proofs.Ytchajbiloaiekaa
