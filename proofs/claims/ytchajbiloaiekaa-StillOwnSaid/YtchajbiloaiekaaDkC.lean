/-
  awake of chapter 08.
-/
import Derived.Test.YtchajbiloaiekaaDkB
namespace Go.Proofs.Ytchajbiloaiekaa
open Go.RowKit
set_option linter.unusedVariables false
set_option linter.unusedSimpArgs false
def r5 : List Nat := List.replicate 64 5
def r6 : List Nat := List.replicate 64 6
def aw1 : DS := (newS 3).writeS 3 1 r5
def aw2 : DS := aw1.crash [] (-1) 0
def aw3 : DS := aw2.writeS 3 1 r5
def aw4 : DS := aw3.writeS 3 1 r6
def aw5 : DS := aw4.crash [true, true] 1 2
theorem aw_w1 : writeN 3 (newS 3) 1 64 = 0 := by decide
theorem aw_r1 : aw1.readS 3 1 = r5 ∧ readN 3 aw1 1 = 0 ∧ aw1.sf = zeros 192 ∧ aw1.row.length = 1 ∧ aw1.wr = 1 := by decide +kernel
theorem aw_r2 : aw2.readS 3 1 = List.replicate 64 0 ∧ readN 3 aw2 1 = 0 ∧ aw2.row.length = 0 ∧ aw2.wr = 1 := by decide +kernel
theorem aw_r3 : aw3.row.length = 1 ∧ aw3.wr = 2 := by decide +kernel
theorem aw_r5 : aw5.readS 3 1 = 6 :: 6 :: List.replicate 62 5 ∧ readN 3 aw5 1 = 0 ∧ aw5.wr = 3 ∧ aw5.sy = 0 := by decide +kernel
/-- Calls of a disk, told by DN; what they answer by names. -/
theorem write_is {w0 w : World} {p n : Nat} {F : Nat → Prop} {s s' : DS} {er : Int} (h : DN w0 w p n F s) (at_ : Int) (A : Option Addr) (m c : Nat) (d : List Nat) (hm : m = d.length) (he : writeN n s at_ m = er) (hs : s.writeS n at_ d = s') (hd : Sl w 1 A m (d.map bn)) (hr : (s.row.length + 1) * 72 ≤ 140737488355328) (hwr : s.wr < 8000000000000000000)
    (hap : ∀ b, (∃ o, A = some ⟨b, o, none⟩) → ¬ F b) :
    Calls Try.prog 36 #[.pointer (some ⟨p, 0, none⟩), .int .i64 at_, .slice A m c] w fun e w' => e = .returned (.int .i64 er) ∧ ∃ F', DN w0 w' p n F' s' ∧ Fr F w w' ∧ ∀ k, k < w.heap.size → F' k → F k := by
  subst he; subst hs
  exact (write_any h.di at_ A m c d hm hd hr hwr hap).mono fun e w' ⟨h1, h2⟩ => ⟨h1, h.out h2⟩
theorem sync_is {w0 w : World} {p n : Nat} {F : Nat → Prop} {s s' : DS} {er : Int} (h : DN w0 w p n F s) (he : syncN s = er) (hs : s.syncS = s') (hsy : s.sy < 8000000000000000000) :
    Calls Try.prog 32 #[.pointer (some ⟨p, 0, none⟩)] w fun e w' => e = .returned (.int .i64 er) ∧ ∃ F', DN w0 w' p n F' s' ∧ Fr F w w' ∧ ∀ k, k < w.heap.size → F' k → F k := by
  subst he; subst hs
  exact (sync_any h.di hsy).mono fun e w' ⟨h1, h2⟩ => ⟨h1, h.out h2⟩
theorem read_is {w0 w : World} {p n : Nat} {F : Nat → Prop} {s : DS} {xs : List Nat} {er : Int} (h : DN w0 w p n F s) (at_ : Int) (m : Nat) (hx : s.readS n at_ = xs) (he : readN n s at_ = er) (hm : xs.length = m) :
    Calls Try.prog 22 #[.pointer (some ⟨p, 0, none⟩), .int .i64 at_] w fun e w' => ∃ A g e0, e = .returned (.tuple #[.slice A m m, .int .i64 er]) ∧ DN w0 w' p n F s ∧ Ow w' e0 1 A m m (xs.map bn) g ∧ (∀ b, g = some b → w.heap.size ≤ b) ∧ Fr (fun _ => False) w w' := by
  subst hx; subst he; subst hm
  refine (read_any h.di at_).mono ?_
  rintro e w' ⟨⟨A, g, e0, h1, h2, h3⟩, h4⟩
  exact ⟨A, g, e0, h1, h.step h4, h2, h3, h4⟩
theorem image_is {w0 w : World} {p n : Nat} {F : Nat → Prop} {s : DS} (h : DN w0 w p n F s) (m : Nat) (hm : s.sf.length = m) :
    Calls Try.prog 16 #[.pointer (some ⟨p, 0, none⟩)] w fun e w' => ∃ A g, e = .returned (.slice A m m) ∧ DN w0 w' p n F s ∧ Ow w' 5 1 A m m (s.sf.map bn) g ∧ (∀ b, g = some b → w.heap.size ≤ b) ∧ Fr (fun _ => False) w w' := by
  subst hm
  refine (image_any h.di).mono ?_
  rintro e w' ⟨A, g, h1, h2, h3, h4⟩
  exact ⟨A, g, h1, h.step h4, h2, h3, h4⟩
end Go.Proofs.Ytchajbiloaiekaa
