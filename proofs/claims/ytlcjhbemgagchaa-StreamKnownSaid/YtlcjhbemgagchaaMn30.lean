/-
  Texts merged into one, to keep the claim small: PrB, PdI.
-/
import Derived.Laws.Rows
import Derived.Test.YtlcjhbemgagchaaMc21
import Derived.Test.YtlcjhbemgagchaaMc8
import Derived.Test.YtlcjhbemgagchaaMc27
import Derived.Test.YtlcjhbemgagchaaMc17
import Derived.Test.YtlcjhbemgagchaaMc19
import Derived.Test.YtlcjhbemgagchaaMc24
import Derived.Deep.CutBlock
section
/-
  proto's reference: EncodeReply. (printed by pr_ref2.py)
-/
namespace Go.Proofs.Ytlcjhbemgagchaa
open Go.RowKit
set_option linter.unusedVariables false
set_option linter.unusedSimpArgs false
end Go.Proofs.Ytlcjhbemgagchaa
end

section
/-
  proto: the document's DecodeReply. (printed by pr_dec3.py)
-/
namespace Go.Proofs.Ytlcjhbemgagchaa
open Go.RowKit
set_option linter.unusedVariables false
set_option linter.unusedSimpArgs false

/-- What the document's DecodeReply answers. -/
def RRepPost (bs : List Nat) (w : World) (e : Ending) (w' : World) : Prop :=
  (65536 < bs.length ∧ e = .returned (.tuple #[.agg #[.int .i64 0, .int .i64 0, .int .i64 0, .int .u64 0, .slice none 0 0, .string ⟨#[]⟩, .int .u32 0, .int .i64 0, .int .i64 0, .int .i64 0, .int .i64 0, .int .i64 0, .int .i64 0, .int .u64 0, .int .u64 0, .int .u64 0, .int .i64 0, .slice none 0 0], .int .i64 3]) ∧ Fr (fun _ => False) w w') ∨
  (bs.length ≤ 65536 ∧ (∀ q, ¬ RForm bs q) ∧ e = .returned (.tuple #[.agg #[.int .i64 0, .int .i64 0, .int .i64 0, .int .u64 0, .slice none 0 0, .string ⟨#[]⟩, .int .u32 0, .int .i64 0, .int .i64 0, .int .i64 0, .int .i64 0, .int .i64 0, .int .i64 0, .int .u64 0, .int .u64 0, .int .u64 0, .int .i64 0, .slice none 0 0], .int .i64 270]) ∧ Fr (fun _ => False) w w') ∨
  (bs.length ≤ 65536 ∧ ∃ q, RForm bs q ∧ e = .returned (.tuple #[.agg #[.int .i64 q.id, .int .i64 q.err, .int .i64 q.num, .int .u64 (q.co : Int), .slice q.A q.n q.c, .string (strOf q.txt), .int .u32 (q.bits : Int), .int .i64 q.k.num, .int .i64 q.k.kind, .int .i64 q.k.by_, .int .i64 q.k.dl, .int .i64 q.k.to_, .int .i64 q.k.want, .int .u64 (q.k.pr : Int), .int .u64 (q.k.rs : Int), .int .u64 (q.k.st : Int), .int .i64 q.k.of_, .slice q.k.A q.k.n q.k.c], .int .i64 0]) ∧ (RLt w' q.items q.A q.n q.c ∧ RCon w' q.k) ∧ Fr (fun _ => False) w w')
end Go.Proofs.Ytlcjhbemgagchaa
end
