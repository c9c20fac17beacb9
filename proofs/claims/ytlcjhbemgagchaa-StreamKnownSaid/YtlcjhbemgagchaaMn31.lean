/-
  Texts merged into one, to keep the claim small: PdK, St9.
-/
import Derived.Test.YtlcjhbemgagchaaMc24
import Derived.Test.YtlcjhbemgagchaaMc29
import Derived.Test.YtlcjhbemgagchaaMn30
import Derived.Laws.IdiomCopy
import Derived.Test.YtlcjhbemgagchaaMc25
section
/-
  proto: answers as verdicts; copy into a slice of one's own. (printed by pr_dlaw.py)
-/
namespace Go.Proofs.Ytlcjhbemgagchaa
open Go.RowKit
set_option linter.unusedVariables false
set_option linter.unusedSimpArgs false
theorem RDecPost.is {bs : List Nat} {w w' : World} {e : Ending} (h : RDecPost bs w e w') : DecIs bs w e w' := by
  rcases h with ⟨h1, rfl, hf⟩ | ⟨h1, h2, rfl, hf⟩ | ⟨h1, c, h2, rfl, h3, hf⟩
  · exact ⟨zeroC, 3, rfl, .inl ⟨h1, rfl, rfl⟩, zeroC_T _, hf⟩
  · exact ⟨zeroC, 270, rfl, .inr (.inl ⟨h1, h2, rfl, rfl⟩), zeroC_T _, hf⟩
  · exact ⟨c, 0, rfl, .inr (.inr ⟨h1, rfl, h2⟩), ⟨h3.1, h3.2.k⟩, hf⟩
theorem RRepPost.is {bs : List Nat} {w w' : World} {e : Ending} (h : RRepPost bs w e w') : RepIs bs w e w' := by
  rcases h with ⟨h1, rfl, hf⟩ | ⟨h1, h2, rfl, hf⟩ | ⟨h1, c, h2, rfl, h3, hf⟩
  · exact ⟨zeroR, 3, rfl, .inl ⟨h1, rfl, rfl⟩, zeroR_T _, hf⟩
  · exact ⟨zeroR, 270, rfl, .inr (.inl ⟨h1, h2, rfl, rfl⟩), zeroR_T _, hf⟩
  · exact ⟨c, 0, rfl, .inr (.inr ⟨h1, rfl, h2⟩), ⟨h3.1, h3.1.1.le, h3.2.k⟩, hf⟩
end Go.Proofs.Ytlcjhbemgagchaa
end

section
/-
  stream: Replies, the reference's. (printed by pr_reps.py)
-/
namespace Go.Proofs.Ytlcjhbemgagchaa
open Go.RowKit
set_option linter.unusedVariables false
theorem longS_three (bs : List Nat) : longS (bs.take 3) = longS bs := by
  simp [longS, List.getD]
end Go.Proofs.Ytlcjhbemgagchaa
end
