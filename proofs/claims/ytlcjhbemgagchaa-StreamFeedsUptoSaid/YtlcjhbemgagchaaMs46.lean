/-
  Texts merged into one, to keep the claim small: St2, St3.
-/
import Derived.Test.YtlcjhbemgagchaaMs45
import Derived.Test.YtlcjhbemgagchaaMc17
import Derived.Test.YtlcjhbemgagchaaMc13
section
/-
  stream: Ask and Tell, the program's and the reference's, over an Encode that is told. (printed by pr_ask.py)
-/
namespace Go.Proofs.Ytlcjhbemgagchaa
open Go.RowKit
set_option linter.unusedVariables false

end Go.Proofs.Ytlcjhbemgagchaa
end

section
/-
  StreamFrames: the walk, over Ask and Tell that are told. (printed by pr_frames.py)
-/
namespace Go.Proofs.Ytlcjhbemgagchaa
open Go.RowKit
set_option linter.unusedVariables false
theorem num29_any (w : World) (x : Int) : Calls Try.prog 13 #[.int .i64 x] w fun e w' => e = .returned (.int .i64 x) ∧ w = w' := by
  go_enter Try.func13, Try.ntmps13
  go_wp2
  go_ret
  exact ⟨rfl, rfl⟩
end Go.Proofs.Ytlcjhbemgagchaa
end
