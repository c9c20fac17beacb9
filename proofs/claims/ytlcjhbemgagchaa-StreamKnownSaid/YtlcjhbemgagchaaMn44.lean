/-
  Texts merged into one, to keep the claim small: PrN4, Su7.
-/
import Derived.Test.YtlcjhbemgagchaaMn37
import Derived.Deep.CutBlock
import Derived.Test.YtlcjhbemgagchaaMc17
import Derived.Test.YtlcjhbemgagchaaMc19
import Derived.Laws.Rows
import Derived.Test.YtlcjhbemgagchaaMc21
import Derived.Test.YtlcjhbemgagchaaMc8
import Derived.Test.YtlcjhbemgagchaaMc27
import Derived.Test.YtlcjhbemgagchaaMn31
section
/-
  bazaarref27's May of any command (XPrN3 without the law's walk: never import both).
-/
namespace Go.Proofs.Ytlcjhbemgagchaa
open Go.RowKit
set_option linter.unusedVariables false
end Go.Proofs.Ytlcjhbemgagchaa
end

section
/-
  stream: pieces, the reference's. (printed by pr_rpc.py)
-/
namespace Go.Proofs.Ytlcjhbemgagchaa
open Go.RowKit
set_option linter.unusedVariables false
attribute [local go_sem ↓] storeC_ loadC_
theorem Pcr.app {W w w' : World} {l : List PC} {t : TypeId} {A : Option Addr} {n c : Nat} {g : Option Nat} {q : PC} {A3 : Option Addr} {c3 : Nat} {g3 : Option Nat} (h : Pcr W w l t A n c g) (hq : KT w q.c) (hO : Ow w' t 25 A3 (n + 1) c3 (l.flatMap pcells ++ pcells q) g3) (hf : Fr (fun x => some x = g) w w') (hg : g3 = g ∨ ∃ b, g3 = some b ∧ W.heap.size ≤ b) (t1 : t ≠ tEnt) (t2 : t ≠ 3) : Pcr W w' (l ++ [q]) t A3 (n + 1) c3 g3 := by
  have k1 : ∀ x, Typed w x tEnt → ¬ some x = g := fun x hx e => t1 ((hx.same (h.ow.typed x e.symm))).symm
  have k2 : ∀ x, Typed w x 3 → ¬ some x = g := fun x hx e => t2 ((hx.same (h.ow.typed x e.symm))).symm
  refine ⟨by rw [h.len]; simp, by rw [pflat_snoc]; exact hO, fun b e => ?_, fun p hp => ?_⟩
  · rcases hg with rfl | ⟨b', rfl, hb⟩
    · exact h.new b e
    · cases e; exact hb
  · rcases List.mem_append.1 hp with hp | hp
    · exact (h.rt p hp).frt hf k1 k2
    · obtain rfl : p = q := by simpa using hp
      exact hq.frt hf k1 k2
end Go.Proofs.Ytlcjhbemgagchaa
end
