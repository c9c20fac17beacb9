/-
  No cell of these rows narrows 'for every input' (looked for: loops, veiled, ifaces, maps, wideKeys, modest, calm, conditions, laid).
  DERIVED. THE GIVEN ROWS OF THIS SEAT. 3 by the template 'for every input the law returns true; each argument reads behind the call as it read before'; 0 by the template 'total and deterministic' (their statements: YtchajbiloaiekaaTotals.lean).
  GIVEN WITH THE SEED: the statements are not yours to turn. If you find one false, say at which input.
  Laid BY PROGRAM, IN A SANDBOX (cutbox-rows.mjs): the forced cells as the released guide's own fill.sh prints them over the translation af647c01616386ef… (all of the seat's roots in one cut). By AI agents, Wed Nov 11 2026. No macro, syntax, notation, axiom, sorry.
-/
import Derived.Test.YtchajbiloaiekaaChecked
import GoSem.Claim
import GoSem.ClaimJoined
import GoSem.ClaimMapViews
import Derived.JoinedTies
import Derived.KernelRfl
namespace Go.Proofs.Ytchajbiloaiekaa
/- THE CELL 'sum', in the pinned program and in every row, IS THE sha256 OF THE DUMP (.gsa) THAT YtchajbiloaiekaaProg.lean LOADS. Nothing in Lean hashes anything: it is a label: what it is worth is what the hold of that sum in a sandbox is worth. -/
noncomputable def Try.pinned : Pinned := { name := "ytchajbiloaiekaa", sum := "af647c01616386ef776a7731383a7f79b2b7a90094020496a9c3651090602412", checked := Try.checked }
namespace Rows
def none {H : Type} : Left H := { results := [], args := [] }

/-- 'bazaarlaw12.StillOwn': WHATEVER THE INPUT: true; the input reads as it did. -/
def stillOwnSpec : ChangeSpec := { name := "stillOwn", fn := fun _ => fun
  | [d1, d2, d3] => { results := [.lit (.bool true)], args := [d1, d2, d3] }
  | _ => none }
def stillOwnRow : OpenClaim := { program := "ytchajbiloaiekaa", sum := "af647c01616386ef776a7731383a7f79b2b7a90094020496a9c3651090602412", func := "bazaar/bazaarlaw12.StillOwn", spec := "stillOwn", unfollowed := true, recurses := true, apart := false }
def StillOwnSaid : Prop := stillOwnRow.holds Try.pinned (OpenSpec.ofChange stillOwnSpec)

/-- ITS FALSE NEIGHBOUR: 'it returns false'. Refute it at one input. -/
def stillOwnWrong : ChangeSpec := { name := "stillOwn", fn := fun _ => fun
  | [d1, d2, d3] => { results := [.lit (.bool false)], args := [d1, d2, d3] }
  | _ => none }
def StillOwnWrongFalsely : Prop := stillOwnRow.holds Try.pinned (OpenSpec.ofChange stillOwnWrong)

/-- 'bazaarlaw12.StillRot': WHATEVER THE INPUT: true; the input reads as it did. -/
def stillRotSpec : ChangeSpec := { name := "stillRot", fn := fun _ => fun
  | [d1, d2, d3, d4, d5, d6] => { results := [.lit (.bool true)], args := [d1, d2, d3, d4, d5, d6] }
  | _ => none }
def stillRotRow : OpenClaim := { program := "ytchajbiloaiekaa", sum := "af647c01616386ef776a7731383a7f79b2b7a90094020496a9c3651090602412", func := "bazaar/bazaarlaw12.StillRot", spec := "stillRot", unfollowed := true, recurses := true, apart := false }
def StillRotSaid : Prop := stillRotRow.holds Try.pinned (OpenSpec.ofChange stillRotSpec)

/-- ITS FALSE NEIGHBOUR: 'it returns false'. Refute it at one input. -/
def stillRotWrong : ChangeSpec := { name := "stillRot", fn := fun _ => fun
  | [d1, d2, d3, d4, d5, d6] => { results := [.lit (.bool false)], args := [d1, d2, d3, d4, d5, d6] }
  | _ => none }
def StillRotWrongFalsely : Prop := stillRotRow.holds Try.pinned (OpenSpec.ofChange stillRotWrong)

/-- 'bazaarlaw12.StillBack': WHATEVER THE INPUT: true; the input reads as it did. -/
def stillBackSpec : ChangeSpec := { name := "stillBack", fn := fun _ => fun
  | [d1, d2, d3, d4, d5] => { results := [.lit (.bool true)], args := [d1, d2, d3, d4, d5] }
  | _ => none }
def stillBackRow : OpenClaim := { program := "ytchajbiloaiekaa", sum := "af647c01616386ef776a7731383a7f79b2b7a90094020496a9c3651090602412", func := "bazaar/bazaarlaw12.StillBack", spec := "stillBack", unfollowed := true, recurses := true, apart := false }
def StillBackSaid : Prop := stillBackRow.holds Try.pinned (OpenSpec.ofChange stillBackSpec)

/-- ITS FALSE NEIGHBOUR: 'it returns false'. Refute it at one input. -/
def stillBackWrong : ChangeSpec := { name := "stillBack", fn := fun _ => fun
  | [d1, d2, d3, d4, d5] => { results := [.lit (.bool false)], args := [d1, d2, d3, d4, d5] }
  | _ => none }
def StillBackWrongFalsely : Prop := stillBackRow.holds Try.pinned (OpenSpec.ofChange stillBackWrong)

/- THE SECOND FORM. 'bulk': how many values and letters a reading holds, each counted each time it is reached (what is shared counts as often as it is met; a slice's spare places count too). A statement '..UptoSaid' is the law's where the arguments, and the package variables that the reading takes, are together of bulk at most 1048576: NARROWER than '..Said'. Prove '..Said' where nothing that the law and all that it calls make is longer than what came in: it says more and counts as full. Else prove '..UptoSaid'. A law counts once. -/
mutual
def uptoBulk {H : Type} : DataW H → Nat
  | .lit (.string bytes) => bytes.length + 1
  | .lit _ => 1
  | .nil => 1
  | .ptr d => uptoBulk d + 1
  | .slice elems spare => uptoBulkAll elems + uptoBulkAll spare + 1
  | .agg parts => uptoBulkAll parts + 1
  | .iface _ d => uptoBulk d + 1
  | .map entries => uptoBulkEntries entries + 1
  | .held _ => 1
def uptoBulkAll {H : Type} : List (DataW H) → Nat
  | [] => 0
  | d :: r => uptoBulk d + uptoBulkAll r
def uptoBulkEntries {H : Type} : List (Lit × DataW H) → Nat
  | [] => 0
  | x :: r => uptoBulkEntry x + uptoBulkEntries r
def uptoBulkEntry {H : Type} : Lit × DataW H → Nat
  | (.string bytes, d) => bytes.length + uptoBulk d + 1
  | (_, d) => uptoBulk d + 1
 end
def uptoSmall : (H : Type) → List (DataW H) → Bool := fun _ ds => decide (uptoBulkAll ds ≤ 1048576)
def OpenSpec.upto (s : _root_.Go.ChangeSpec) : _root_.Go.OpenSpec := { _root_.Go.OpenSpec.ofChange s with cond := some uptoSmall }

/-- 'bazaarlaw12.StillOwn', WHERE WHAT IT READS IS OF BULK AT MOST 1048576: true; the input reads as it did. -/
def stillOwnUptoRow : OpenClaim := { program := "ytchajbiloaiekaa", sum := "af647c01616386ef776a7731383a7f79b2b7a90094020496a9c3651090602412", func := "bazaar/bazaarlaw12.StillOwn", spec := "stillOwn", unfollowed := true, recurses := true, apart := false, narrowed := true }
def StillOwnUptoSaid : Prop := stillOwnUptoRow.holds Try.pinned (OpenSpec.upto stillOwnSpec)

/-- 'bazaarlaw12.StillRot', WHERE WHAT IT READS IS OF BULK AT MOST 1048576: true; the input reads as it did. -/
def stillRotUptoRow : OpenClaim := { program := "ytchajbiloaiekaa", sum := "af647c01616386ef776a7731383a7f79b2b7a90094020496a9c3651090602412", func := "bazaar/bazaarlaw12.StillRot", spec := "stillRot", unfollowed := true, recurses := true, apart := false, narrowed := true }
def StillRotUptoSaid : Prop := stillRotUptoRow.holds Try.pinned (OpenSpec.upto stillRotSpec)

/-- 'bazaarlaw12.StillBack', WHERE WHAT IT READS IS OF BULK AT MOST 1048576: true; the input reads as it did. -/
def stillBackUptoRow : OpenClaim := { program := "ytchajbiloaiekaa", sum := "af647c01616386ef776a7731383a7f79b2b7a90094020496a9c3651090602412", func := "bazaar/bazaarlaw12.StillBack", spec := "stillBack", unfollowed := true, recurses := true, apart := false, narrowed := true }
def StillBackUptoSaid : Prop := stillBackUptoRow.holds Try.pinned (OpenSpec.upto stillBackSpec)

end Rows
end Go.Proofs.Ytchajbiloaiekaa
