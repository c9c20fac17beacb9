/-
  No cell of these rows narrows 'for every input' (looked for: loops, veiled, ifaces, maps, wideKeys, modest, calm, conditions, laid).
  DERIVED. THE GIVEN ROWS OF THIS SEAT. 4 by the template 'for every input the law returns true; each argument reads behind the call as it read before'; 0 by the template 'total and deterministic' (their statements: YtcfpmnlpoihgfaaTotals.lean).
  GIVEN WITH THE SEED: the statements are not yours to turn. If you find one false, say at which input.
  Laid BY PROGRAM, IN A SANDBOX (cutbox-rows.mjs): the forced cells as the released guide's own fill.sh prints them over the translation 082383323f6b63d0… (all of the seat's roots in one cut). By AI agents, Wed Nov 11 2026. No macro, syntax, notation, axiom, sorry.
-/
import Derived.Test.YtcfpmnlpoihgfaaChecked
import GoSem.Claim
import GoSem.ClaimJoined
import GoSem.ClaimMapViews
import Derived.JoinedTies
import Derived.KernelRfl
namespace Go.Proofs.Ytcfpmnlpoihgfaa
/- THE CELL 'sum', in the pinned program and in every row, IS THE sha256 OF THE DUMP (.gsa) THAT YtcfpmnlpoihgfaaProg.lean LOADS. Nothing in Lean hashes anything: it is a label: what it is worth is what the hold of that sum in a sandbox is worth. -/
noncomputable def Try.pinned : Pinned := { name := "ytcfpmnlpoihgfaa", sum := "082383323f6b63d0c08c1e4eceee588fd5dcc375ed464d6cf94a3aa1bc9259fc", checked := Try.checked }
namespace Rows
def none {H : Type} : Left H := { results := [], args := [] }

/-- 'bazaarlaw07.HandlesWorn': WHATEVER THE INPUT: true; the input reads as it did. -/
def handlesWornSpec : ChangeSpec := { name := "handlesWorn", fn := fun _ => fun
  | [d1, d2] => { results := [.lit (.bool true)], args := [d1, d2] }
  | _ => none }
def handlesWornRow : OpenClaim := { program := "ytcfpmnlpoihgfaa", sum := "082383323f6b63d0c08c1e4eceee588fd5dcc375ed464d6cf94a3aa1bc9259fc", func := "bazaar/bazaarlaw07.HandlesWorn", spec := "handlesWorn", unfollowed := true, recurses := true, apart := false }
def HandlesWornSaid : Prop := handlesWornRow.holds Try.pinned (OpenSpec.ofChange handlesWornSpec)

/-- ITS FALSE NEIGHBOUR: 'it returns false'. Refute it at one input. -/
def handlesWornWrong : ChangeSpec := { name := "handlesWorn", fn := fun _ => fun
  | [d1, d2] => { results := [.lit (.bool false)], args := [d1, d2] }
  | _ => none }
def HandlesWornWrongFalsely : Prop := handlesWornRow.holds Try.pinned (OpenSpec.ofChange handlesWornWrong)

/-- 'bazaarlaw07.HandlesNever': WHATEVER THE INPUT: true; the input reads as it did. -/
def handlesNeverSpec : ChangeSpec := { name := "handlesNever", fn := fun _ => fun
  | [d1, d2, d3] => { results := [.lit (.bool true)], args := [d1, d2, d3] }
  | _ => none }
def handlesNeverRow : OpenClaim := { program := "ytcfpmnlpoihgfaa", sum := "082383323f6b63d0c08c1e4eceee588fd5dcc375ed464d6cf94a3aa1bc9259fc", func := "bazaar/bazaarlaw07.HandlesNever", spec := "handlesNever", unfollowed := true, recurses := true, apart := false }
def HandlesNeverSaid : Prop := handlesNeverRow.holds Try.pinned (OpenSpec.ofChange handlesNeverSpec)

/-- ITS FALSE NEIGHBOUR: 'it returns false'. Refute it at one input. -/
def handlesNeverWrong : ChangeSpec := { name := "handlesNever", fn := fun _ => fun
  | [d1, d2, d3] => { results := [.lit (.bool false)], args := [d1, d2, d3] }
  | _ => none }
def HandlesNeverWrongFalsely : Prop := handlesNeverRow.holds Try.pinned (OpenSpec.ofChange handlesNeverWrong)

/-- 'bazaarlaw07.HandlesParts': WHATEVER THE INPUT: true; the input reads as it did. -/
def handlesPartsSpec : ChangeSpec := { name := "handlesParts", fn := fun _ => fun
  | [d] => { results := [.lit (.bool true)], args := [d] }
  | _ => none }
def handlesPartsRow : OpenClaim := { program := "ytcfpmnlpoihgfaa", sum := "082383323f6b63d0c08c1e4eceee588fd5dcc375ed464d6cf94a3aa1bc9259fc", func := "bazaar/bazaarlaw07.HandlesParts", spec := "handlesParts", unfollowed := true, recurses := true, apart := false }
def HandlesPartsSaid : Prop := handlesPartsRow.holds Try.pinned (OpenSpec.ofChange handlesPartsSpec)

/-- ITS FALSE NEIGHBOUR: 'it returns false'. Refute it at one input. -/
def handlesPartsWrong : ChangeSpec := { name := "handlesParts", fn := fun _ => fun
  | [d] => { results := [.lit (.bool false)], args := [d] }
  | _ => none }
def HandlesPartsWrongFalsely : Prop := handlesPartsRow.holds Try.pinned (OpenSpec.ofChange handlesPartsWrong)

/-- 'bazaarlaw07.HandlesScripts': WHATEVER THE INPUT: true; the input reads as it did. -/
def handlesScriptsSpec : ChangeSpec := { name := "handlesScripts", fn := fun _ => fun
  | [d1, d2] => { results := [.lit (.bool true)], args := [d1, d2] }
  | _ => none }
def handlesScriptsRow : OpenClaim := { program := "ytcfpmnlpoihgfaa", sum := "082383323f6b63d0c08c1e4eceee588fd5dcc375ed464d6cf94a3aa1bc9259fc", func := "bazaar/bazaarlaw07.HandlesScripts", spec := "handlesScripts", unfollowed := true, recurses := true, apart := false }
def HandlesScriptsSaid : Prop := handlesScriptsRow.holds Try.pinned (OpenSpec.ofChange handlesScriptsSpec)

/-- ITS FALSE NEIGHBOUR: 'it returns false'. Refute it at one input. -/
def handlesScriptsWrong : ChangeSpec := { name := "handlesScripts", fn := fun _ => fun
  | [d1, d2] => { results := [.lit (.bool false)], args := [d1, d2] }
  | _ => none }
def HandlesScriptsWrongFalsely : Prop := handlesScriptsRow.holds Try.pinned (OpenSpec.ofChange handlesScriptsWrong)

/- THE SECOND FORM. 'bulk': how many values and letters a reading holds, each counted each time it is reached (what is shared counts as often as it is met; a slice's spare places count too). A statement '..UptoSaid' is the law's where the arguments, and the package variables that the reading takes, are together of bulk at most 1048576: NARROWER than '..Said'. Prove '..Said' where nothing that the law and all that it calls make is longer than what came in: it says more and counts as full. Else prove '..UptoSaid'. A law counts once. -/
mutual
def uptoBulk {H : Type} : DataW H → Nat
  | .lit (.string bytes) => bytes.length + 1
  | .lit _ => 1
  | .nil => 1
  | .ptr d => uptoBulk d + 1
  | .slice elems spare => uptoBulkAll elems + uptoBulkAll spare + 1
  | .agg parts => uptoBulkAll parts + 1
  | .iface _ d => uptoBulk d + 1
  | .map entries => uptoBulkEntries entries + 1
  | .held _ => 1
def uptoBulkAll {H : Type} : List (DataW H) → Nat
  | [] => 0
  | d :: r => uptoBulk d + uptoBulkAll r
def uptoBulkEntries {H : Type} : List (Lit × DataW H) → Nat
  | [] => 0
  | x :: r => uptoBulkEntry x + uptoBulkEntries r
def uptoBulkEntry {H : Type} : Lit × DataW H → Nat
  | (.string bytes, d) => bytes.length + uptoBulk d + 1
  | (_, d) => uptoBulk d + 1
 end
def uptoSmall : (H : Type) → List (DataW H) → Bool := fun _ ds => decide (uptoBulkAll ds ≤ 1048576)
def OpenSpec.upto (s : _root_.Go.ChangeSpec) : _root_.Go.OpenSpec := { _root_.Go.OpenSpec.ofChange s with cond := some uptoSmall }

/-- 'bazaarlaw07.HandlesWorn', WHERE WHAT IT READS IS OF BULK AT MOST 1048576: true; the input reads as it did. -/
def handlesWornUptoRow : OpenClaim := { program := "ytcfpmnlpoihgfaa", sum := "082383323f6b63d0c08c1e4eceee588fd5dcc375ed464d6cf94a3aa1bc9259fc", func := "bazaar/bazaarlaw07.HandlesWorn", spec := "handlesWorn", unfollowed := true, recurses := true, apart := false, narrowed := true }
def HandlesWornUptoSaid : Prop := handlesWornUptoRow.holds Try.pinned (OpenSpec.upto handlesWornSpec)

/-- 'bazaarlaw07.HandlesNever', WHERE WHAT IT READS IS OF BULK AT MOST 1048576: true; the input reads as it did. -/
def handlesNeverUptoRow : OpenClaim := { program := "ytcfpmnlpoihgfaa", sum := "082383323f6b63d0c08c1e4eceee588fd5dcc375ed464d6cf94a3aa1bc9259fc", func := "bazaar/bazaarlaw07.HandlesNever", spec := "handlesNever", unfollowed := true, recurses := true, apart := false, narrowed := true }
def HandlesNeverUptoSaid : Prop := handlesNeverUptoRow.holds Try.pinned (OpenSpec.upto handlesNeverSpec)

/-- 'bazaarlaw07.HandlesParts', WHERE WHAT IT READS IS OF BULK AT MOST 1048576: true; the input reads as it did. -/
def handlesPartsUptoRow : OpenClaim := { program := "ytcfpmnlpoihgfaa", sum := "082383323f6b63d0c08c1e4eceee588fd5dcc375ed464d6cf94a3aa1bc9259fc", func := "bazaar/bazaarlaw07.HandlesParts", spec := "handlesParts", unfollowed := true, recurses := true, apart := false, narrowed := true }
def HandlesPartsUptoSaid : Prop := handlesPartsUptoRow.holds Try.pinned (OpenSpec.upto handlesPartsSpec)

/-- 'bazaarlaw07.HandlesScripts', WHERE WHAT IT READS IS OF BULK AT MOST 1048576: true; the input reads as it did. -/
def handlesScriptsUptoRow : OpenClaim := { program := "ytcfpmnlpoihgfaa", sum := "082383323f6b63d0c08c1e4eceee588fd5dcc375ed464d6cf94a3aa1bc9259fc", func := "bazaar/bazaarlaw07.HandlesScripts", spec := "handlesScripts", unfollowed := true, recurses := true, apart := false, narrowed := true }
def HandlesScriptsUptoSaid : Prop := handlesScriptsUptoRow.holds Try.pinned (OpenSpec.upto handlesScriptsSpec)

end Rows
end Go.Proofs.Ytcfpmnlpoihgfaa
