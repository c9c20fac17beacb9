/-
  Texts merged into one, to keep the claim small: Su6, PrM0, PrM1.
-/
import Derived.Test.YtlcjhbemgagchaaMn36
import Derived.Deep.CutBlock
import Derived.Test.YtlcjhbemgagchaaMc17
import Derived.Test.YtlcjhbemgagchaaMc19
import Derived.Laws.Rows
import Derived.Test.YtlcjhbemgagchaaMc21
import Derived.Test.YtlcjhbemgagchaaMc8
import Derived.Test.YtlcjhbemgagchaaMc27
section
/-
  stream: Waiting, Deaf; a nil stream.
-/
namespace Go.Proofs.Ytlcjhbemgagchaa
open Go.RowKit
set_option linter.unusedVariables false
/-- How many bytes wait. -/
def waitN (T : List Nat) (u : Nat) (d : Bool) : Nat := if d then 0 else T.length - u
theorem waiting_wide (w : World) (p : Nat) (T : List Nat) (u : Nat) (d : Bool) (sg : Option Nat) (h : StM w p T u d sg) (hT : T.length ≤ 137438953472) :
    Calls Try.prog 30 #[.pointer (some ⟨p, 0, none⟩)] w fun e w' => e = .returned (.int .i64 (waitN T u d : Int)) ∧ Fr (fun _ => False) w w' := by
  obtain ⟨ln, want, taken, f, SA, sc, h⟩ := h
  have c0 : w.cell? ⟨p, 0, none⟩ = some (.slice SA ln.length sc) := Bl.cell' (i := 0) h.bl rfl
  have c2 : w.cell? ⟨p, 2, none⟩ = some (.int .i64 (taken : Int)) := Bl.cell' (i := 2) h.bl rfl
  have c4 : w.cell? ⟨p, 4, none⟩ = some (.bool d) := Bl.cell' (i := 4) h.bl rfl
  have hmd := h.md
  clear h
  obtain ⟨n0, hn0⟩ : ∃ n0, ln.length = n0 := ⟨_, rfl⟩
  rw [hn0] at c0
  cases d with
  | true =>
    have hw : waitN T u true = 0 := rfl
    rw [hw]
    clear hmd hn0 hT
    go_enter Try.func30, Try.ntmps30
    go_wp2_with fail
    go_ret
    exact ⟨rfl, Fr.refl _ _⟩
  | false =>
    have hw : taken + n0 = waitN T u false ∧ taken ≤ 3 ∧ n0 ≤ 137438953472 := by
      show _ = T.length - u ∧ _
      rcases hmd with ⟨h, _⟩ | ⟨_, h1, h2, rfl, _, rfl, _⟩ | ⟨_, h1, h2, rfl, _, rfl, _⟩
      · cases h
      · rw [List.length_drop] at hn0; omega
      · rw [List.length_drop] at hn0; omega
    obtain ⟨h1, h2, h3⟩ := hw
    have H := hide h1
    have iw : IntKind.i64.wrap ((taken : Int) + (n0 : Int)) = (taken : Int) + (n0 : Int) := IntWalk.i64_in _ (by omega)
    clear hmd hn0 hT h1
    go_enter Try.func30, Try.ntmps30
    go_wp2_with fail
    go_region
    go_wp2_with fail
    go_ret
    refine ⟨?_, (Fr.refl _ _).drewN 1⟩
    rw [← H.out]
    simp
theorem waiting_any (w : World) (p : Nat) (T : List Nat) (u : Nat) (d : Bool) (sg : Option Nat) (h : StM w p T u d sg) (hT : T.length ≤ 1048576) :
    Calls Try.prog 30 #[.pointer (some ⟨p, 0, none⟩)] w fun e w' => e = .returned (.int .i64 (waitN T u d : Int)) ∧ Fr (fun _ => False) w w' :=
  waiting_wide w p T u d sg h (Nat.le_trans hT (by decide))
theorem deaf_any (w : World) (p : Nat) (T : List Nat) (u : Nat) (d : Bool) (sg : Option Nat) (h : StM w p T u d sg) :
    Calls Try.prog 32 #[.pointer (some ⟨p, 0, none⟩)] w fun e w' => e = .returned (.bool d) ∧ w = w' := by
  obtain ⟨ln, want, taken, f, SA, sc, h⟩ := h
  have c4 : w.cell? ⟨p, 4, none⟩ = some (.bool d) := Bl.cell' (i := 4) h.bl rfl
  clear h
  go_enter Try.func32, Try.ntmps32
  go_wp2_with fail
  go_ret
  exact ⟨rfl, rfl⟩
theorem waiting_nil (w : World) : Calls Try.prog 30 #[.pointer none] w fun e w' => e = .returned (.int .i64 0) ∧ w = w' := by
  go_enter Try.func30, Try.ntmps30
  go_wp2_with fail
  go_ret
  exact ⟨rfl, rfl⟩
theorem deaf_nil (w : World) : Calls Try.prog 32 #[.pointer none] w fun e w' => e = .returned (.bool false) ∧ w = w' := by
  go_enter Try.func32, Try.ntmps32
  go_wp2_with fail
  go_ret
  exact ⟨rfl, rfl⟩
theorem feed_nil (w : World) (D : Value) : Calls Try.prog 27 #[.pointer none, D] w fun e w' => e = .returned (.slice none 0 0) ∧ w = w' := by
  go_enter Try.func27, Try.ntmps27
  go_wp2_with fail
  go_ret
  exact ⟨rfl, rfl⟩
end Go.Proofs.Ytlcjhbemgagchaa
end

section
/-
  proto: May of the reference. (printed by pr_may2.py)
-/
namespace Go.Proofs.Ytlcjhbemgagchaa
open Go.RowKit
set_option linter.unusedVariables false
set_option linter.unusedSimpArgs false
end Go.Proofs.Ytlcjhbemgagchaa
end

section
/-
  proto: May of the reference. (printed by pr_may2.py)
-/
namespace Go.Proofs.Ytlcjhbemgagchaa
open Go.RowKit
set_option linter.unusedVariables false
set_option linter.unusedSimpArgs false
end Go.Proofs.Ytlcjhbemgagchaa
end
