/-
  No cell of these rows narrows 'for every input' (looked for: loops, veiled, ifaces, maps, wideKeys, modest, calm, conditions, laid).
  DERIVED. THE GIVEN ROWS OF THIS SEAT. 4 by the template 'for every input the law returns true; each argument reads behind the call as it read before'; 0 by the template 'total and deterministic' (their statements: YtanfhmebjgmdpaaTotals.lean).
  GIVEN WITH THE SEED: the statements are not yours to turn. If you find one false, say at which input.
  Laid BY PROGRAM, IN A SANDBOX (cutbox-rows.mjs): the forced cells as the released guide's own fill.sh prints them over the translation 48deac012e85606b… (all of the seat's roots in one cut). By AI agents, Wed Nov 11 2026. No macro, syntax, notation, axiom, sorry.
-/
import Derived.Test.YtanfhmebjgmdpaaChecked
import GoSem.Claim
import GoSem.ClaimJoined
import GoSem.ClaimMapViews
import Derived.JoinedTies
import Derived.KernelRfl
namespace Go.Proofs.Ytanfhmebjgmdpaa
/- THE CELL 'sum', in the pinned program and in every row, IS THE sha256 OF THE DUMP (.gsa) THAT YtanfhmebjgmdpaaProg.lean LOADS. Nothing in Lean hashes anything: it is a label: what it is worth is what the hold of that sum in a sandbox is worth. -/
noncomputable def Try.pinned : Pinned := { name := "ytanfhmebjgmdpaa", sum := "48deac012e85606bb1844754b25d0e1c0110aefdbe9a1d72448e4999d237ab10", checked := Try.checked }
namespace Rows
def none {H : Type} : Left H := { results := [], args := [] }

/-- 'bazaarlaw16.DrrTime': WHATEVER THE INPUT: true; the input reads as it did. -/
def drrTimeSpec : ChangeSpec := { name := "drrTime", fn := fun _ => fun
  | [d1, d2] => { results := [.lit (.bool true)], args := [d1, d2] }
  | _ => none }
def drrTimeRow : OpenClaim := { program := "ytanfhmebjgmdpaa", sum := "48deac012e85606bb1844754b25d0e1c0110aefdbe9a1d72448e4999d237ab10", func := "bazaar/bazaarlaw16.DrrTime", spec := "drrTime", unfollowed := true, recurses := true, apart := false }
def DrrTimeSaid : Prop := drrTimeRow.holds Try.pinned (OpenSpec.ofChange drrTimeSpec)

/-- ITS FALSE NEIGHBOUR: 'it returns false'. Refute it at one input. -/
def drrTimeWrong : ChangeSpec := { name := "drrTime", fn := fun _ => fun
  | [d1, d2] => { results := [.lit (.bool false)], args := [d1, d2] }
  | _ => none }
def DrrTimeWrongFalsely : Prop := drrTimeRow.holds Try.pinned (OpenSpec.ofChange drrTimeWrong)

/-- 'bazaarlaw16.DrrFair': WHATEVER THE INPUT: true; the input reads as it did. -/
def drrFairSpec : ChangeSpec := { name := "drrFair", fn := fun _ => fun
  | [d] => { results := [.lit (.bool true)], args := [d] }
  | _ => none }
def drrFairRow : OpenClaim := { program := "ytanfhmebjgmdpaa", sum := "48deac012e85606bb1844754b25d0e1c0110aefdbe9a1d72448e4999d237ab10", func := "bazaar/bazaarlaw16.DrrFair", spec := "drrFair", unfollowed := true, recurses := true, apart := false }
def DrrFairSaid : Prop := drrFairRow.holds Try.pinned (OpenSpec.ofChange drrFairSpec)

/-- ITS FALSE NEIGHBOUR: 'it returns false'. Refute it at one input. -/
def drrFairWrong : ChangeSpec := { name := "drrFair", fn := fun _ => fun
  | [d] => { results := [.lit (.bool false)], args := [d] }
  | _ => none }
def DrrFairWrongFalsely : Prop := drrFairRow.holds Try.pinned (OpenSpec.ofChange drrFairWrong)

/-- 'bazaarlaw16.DrrOwn': WHATEVER THE INPUT: true; the input reads as it did. -/
def drrOwnSpec : ChangeSpec := { name := "drrOwn", fn := fun _ => fun
  | [d1, d2] => { results := [.lit (.bool true)], args := [d1, d2] }
  | _ => none }
def drrOwnRow : OpenClaim := { program := "ytanfhmebjgmdpaa", sum := "48deac012e85606bb1844754b25d0e1c0110aefdbe9a1d72448e4999d237ab10", func := "bazaar/bazaarlaw16.DrrOwn", spec := "drrOwn", unfollowed := true, recurses := true, apart := false }
def DrrOwnSaid : Prop := drrOwnRow.holds Try.pinned (OpenSpec.ofChange drrOwnSpec)

/-- ITS FALSE NEIGHBOUR: 'it returns false'. Refute it at one input. -/
def drrOwnWrong : ChangeSpec := { name := "drrOwn", fn := fun _ => fun
  | [d1, d2] => { results := [.lit (.bool false)], args := [d1, d2] }
  | _ => none }
def DrrOwnWrongFalsely : Prop := drrOwnRow.holds Try.pinned (OpenSpec.ofChange drrOwnWrong)

/-- 'bazaarlaw16.DrrScripts': WHATEVER THE INPUT: true; the input reads as it did. -/
def drrScriptsSpec : ChangeSpec := { name := "drrScripts", fn := fun _ => fun
  | [d1, d2] => { results := [.lit (.bool true)], args := [d1, d2] }
  | _ => none }
def drrScriptsRow : OpenClaim := { program := "ytanfhmebjgmdpaa", sum := "48deac012e85606bb1844754b25d0e1c0110aefdbe9a1d72448e4999d237ab10", func := "bazaar/bazaarlaw16.DrrScripts", spec := "drrScripts", unfollowed := true, recurses := true, apart := false }
def DrrScriptsSaid : Prop := drrScriptsRow.holds Try.pinned (OpenSpec.ofChange drrScriptsSpec)

/-- ITS FALSE NEIGHBOUR: 'it returns false'. Refute it at one input. -/
def drrScriptsWrong : ChangeSpec := { name := "drrScripts", fn := fun _ => fun
  | [d1, d2] => { results := [.lit (.bool false)], args := [d1, d2] }
  | _ => none }
def DrrScriptsWrongFalsely : Prop := drrScriptsRow.holds Try.pinned (OpenSpec.ofChange drrScriptsWrong)

/- THE SECOND FORM. 'bulk': how many values and letters a reading holds, each counted each time it is reached (what is shared counts as often as it is met; a slice's spare places count too). A statement '..UptoSaid' is the law's where the arguments, and the package variables that the reading takes, are together of bulk at most 1048576: NARROWER than '..Said'. Prove '..Said' where nothing that the law and all that it calls make is longer than what came in: it says more and counts as full. Else prove '..UptoSaid'. A law counts once. -/
mutual
def uptoBulk {H : Type} : DataW H → Nat
  | .lit (.string bytes) => bytes.length + 1
  | .lit _ => 1
  | .nil => 1
  | .ptr d => uptoBulk d + 1
  | .slice elems spare => uptoBulkAll elems + uptoBulkAll spare + 1
  | .agg parts => uptoBulkAll parts + 1
  | .iface _ d => uptoBulk d + 1
  | .map entries => uptoBulkEntries entries + 1
  | .held _ => 1
def uptoBulkAll {H : Type} : List (DataW H) → Nat
  | [] => 0
  | d :: r => uptoBulk d + uptoBulkAll r
def uptoBulkEntries {H : Type} : List (Lit × DataW H) → Nat
  | [] => 0
  | x :: r => uptoBulkEntry x + uptoBulkEntries r
def uptoBulkEntry {H : Type} : Lit × DataW H → Nat
  | (.string bytes, d) => bytes.length + uptoBulk d + 1
  | (_, d) => uptoBulk d + 1
 end
def uptoSmall : (H : Type) → List (DataW H) → Bool := fun _ ds => decide (uptoBulkAll ds ≤ 1048576)
def OpenSpec.upto (s : _root_.Go.ChangeSpec) : _root_.Go.OpenSpec := { _root_.Go.OpenSpec.ofChange s with cond := some uptoSmall }

/-- 'bazaarlaw16.DrrTime', WHERE WHAT IT READS IS OF BULK AT MOST 1048576: true; the input reads as it did. -/
def drrTimeUptoRow : OpenClaim := { program := "ytanfhmebjgmdpaa", sum := "48deac012e85606bb1844754b25d0e1c0110aefdbe9a1d72448e4999d237ab10", func := "bazaar/bazaarlaw16.DrrTime", spec := "drrTime", unfollowed := true, recurses := true, apart := false, narrowed := true }
def DrrTimeUptoSaid : Prop := drrTimeUptoRow.holds Try.pinned (OpenSpec.upto drrTimeSpec)

/-- 'bazaarlaw16.DrrFair', WHERE WHAT IT READS IS OF BULK AT MOST 1048576: true; the input reads as it did. -/
def drrFairUptoRow : OpenClaim := { program := "ytanfhmebjgmdpaa", sum := "48deac012e85606bb1844754b25d0e1c0110aefdbe9a1d72448e4999d237ab10", func := "bazaar/bazaarlaw16.DrrFair", spec := "drrFair", unfollowed := true, recurses := true, apart := false, narrowed := true }
def DrrFairUptoSaid : Prop := drrFairUptoRow.holds Try.pinned (OpenSpec.upto drrFairSpec)

/-- 'bazaarlaw16.DrrOwn', WHERE WHAT IT READS IS OF BULK AT MOST 1048576: true; the input reads as it did. -/
def drrOwnUptoRow : OpenClaim := { program := "ytanfhmebjgmdpaa", sum := "48deac012e85606bb1844754b25d0e1c0110aefdbe9a1d72448e4999d237ab10", func := "bazaar/bazaarlaw16.DrrOwn", spec := "drrOwn", unfollowed := true, recurses := true, apart := false, narrowed := true }
def DrrOwnUptoSaid : Prop := drrOwnUptoRow.holds Try.pinned (OpenSpec.upto drrOwnSpec)

/-- 'bazaarlaw16.DrrScripts', WHERE WHAT IT READS IS OF BULK AT MOST 1048576: true; the input reads as it did. -/
def drrScriptsUptoRow : OpenClaim := { program := "ytanfhmebjgmdpaa", sum := "48deac012e85606bb1844754b25d0e1c0110aefdbe9a1d72448e4999d237ab10", func := "bazaar/bazaarlaw16.DrrScripts", spec := "drrScripts", unfollowed := true, recurses := true, apart := false, narrowed := true }
def DrrScriptsUptoSaid : Prop := drrScriptsUptoRow.holds Try.pinned (OpenSpec.upto drrScriptsSpec)

end Rows
end Go.Proofs.Ytanfhmebjgmdpaa
