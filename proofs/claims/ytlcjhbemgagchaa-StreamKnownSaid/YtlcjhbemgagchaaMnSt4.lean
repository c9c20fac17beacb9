/-
  Texts merged into one, to keep the claim small: St4.
-/
import Derived.Test.YtlcjhbemgagchaaMn46
import Derived.Test.YtlcjhbemgagchaaMc34
import Derived.Test.YtlcjhbemgagchaaMnPrK5
import Derived.Laws.Rows
import Derived.Test.YtlcjhbemgagchaaMc21
import Derived.Test.YtlcjhbemgagchaaMc8
import Derived.Test.YtlcjhbemgagchaaMc27
import Derived.Test.YtlcjhbemgagchaaMc17
import Derived.Test.YtlcjhbemgagchaaMc19
import Derived.Test.YtlcjhbemgagchaaMn44
import Derived.Test.YtlcjhbemgagchaaMnPr6
import Derived.Test.YtlcjhbemgagchaaMn30
/-
  Ask and Tell of any command and reply; StreamFrames joined. (printed by pr_st4.py)
-/
namespace Go.Proofs.Ytlcjhbemgagchaa
open Go.RowKit
set_option linter.unusedVariables false
/-- A command's frame, a reply's frame. -/
def KC.eb (r : KC) : List Nat := if r.ok then r.form else []
def KC.ee (r : KC) : Nat := if r.ok then 0 else 270
def RR.eb (r : RR) : List Nat := if r.ok then r.form else []
def RR.ee (r : RR) : Nat := if r.ok then 0 else 270
theorem KC.eb_len (r : KC) (h : r.wf) : r.eb.length ≤ 40000 := by
  unfold KC.eb
  split
  · rename_i h1; exact (KC.len h1 h).1
  · simp
theorem RR.eb_len (r : RR) (h : r.wf) : r.eb.length ≤ 140737488350000 := by
  unfold RR.eb
  split
  · rename_i h1; have := (RR.len h1 h).1; omega
  · simp
theorem Encode_any (w : World) (r : KC) (h : r.at_ w) (hwf : r.wf) :
    Calls Try.prog 37 #[.agg #[.int .i64 r.id, .int .i64 r.kind, .string (strOf r.name), .int .i64 r.to_, .int .u64 (r.co : Int), .int .i64 r.item, .int .i64 r.num, .int .i64 r.of_, .int .i64 r.e.acc, .int .i64 r.e.item, .int .u64 (r.e.co : Int), .int .u64 (r.e.pr : Int), .slice r.e.A r.e.n r.e.c, .int .i64 r.k.num, .int .i64 r.k.kind, .int .i64 r.k.by_, .int .i64 r.k.dl, .int .i64 r.k.to_, .int .i64 r.k.want, .int .u64 (r.k.pr : Int), .int .u64 (r.k.rs : Int), .int .u64 (r.k.st : Int), .int .i64 r.k.of_, .slice r.k.A r.k.n r.k.c]] w (PutPost r.eb r.ee w) :=
  Encode_of w r h hwf fun w1 hf => command_any w1 r (h.quiet hf)
theorem ask_any (w : World) (r : KC) (h : r.at_ w) (hwf : r.wf) :
    Calls Try.prog 18 #[.agg #[.int .i64 r.id, .int .i64 r.kind, .string (strOf r.name), .int .i64 r.to_, .int .u64 (r.co : Int), .int .i64 r.item, .int .i64 r.num, .int .i64 r.of_, .int .i64 r.e.acc, .int .i64 r.e.item, .int .u64 (r.e.co : Int), .int .u64 (r.e.pr : Int), .slice r.e.A r.e.n r.e.c, .int .i64 r.k.num, .int .i64 r.k.kind, .int .i64 r.k.by_, .int .i64 r.k.dl, .int .i64 r.k.to_, .int .i64 r.k.want, .int .u64 (r.k.pr : Int), .int .u64 (r.k.rs : Int), .int .u64 (r.k.st : Int), .int .i64 r.k.of_, .slice r.k.A r.k.n r.k.c]] w (PutPost (fB r.eb r.ee) (fE r.eb r.ee) w) :=
  ask_of w r r.eb r.ee (by have := r.eb_len hwf; omega) fun w1 hf => Encode_any w1 r (h.quiet hf) hwf
end Go.Proofs.Ytlcjhbemgagchaa
