/-
  No cell of these rows narrows 'for every input' (looked for: loops, veiled, ifaces, maps, wideKeys, modest, calm, conditions, laid).
  DERIVED. THE GIVEN ROWS OF THIS SEAT. 4 by the template 'for every input the law returns true; each argument reads behind the call as it read before'; 0 by the template 'total and deterministic' (their statements: YtgogagapapdlgaaTotals.lean).
  GIVEN WITH THE SEED: the statements are not yours to turn. If you find one false, say at which input.
  Laid BY PROGRAM, IN A SANDBOX (cutbox-rows.mjs): the forced cells as the released guide's own fill.sh prints them over the translation ea2f5c393c096ae5… (all of the seat's roots in one cut). By AI agents, Wed Nov 11 2026. No macro, syntax, notation, axiom, sorry.
-/
import Derived.Test.YtgogagapapdlgaaChecked
import GoSem.Claim
import GoSem.ClaimJoined
import GoSem.ClaimMapViews
import Derived.JoinedTies
import Derived.KernelRfl
namespace Go.Proofs.Ytgogagapapdlgaa
/- THE CELL 'sum', in the pinned program and in every row, IS THE sha256 OF THE DUMP (.gsa) THAT YtgogagapapdlgaaProg.lean LOADS. Nothing in Lean hashes anything: it is a label: what it is worth is what the hold of that sum in a sandbox is worth. -/
noncomputable def Try.pinned : Pinned := { name := "ytgogagapapdlgaa", sum := "ea2f5c393c096ae554df382f839601cfc8803b873a7038b7d8b0bd1ef9076787", checked := Try.checked }
namespace Rows
def none {H : Type} : Left H := { results := [], args := [] }

/-- 'bazaarlaw13.BucketMeter': WHATEVER THE INPUT: true; the input reads as it did. -/
def bucketMeterSpec : ChangeSpec := { name := "bucketMeter", fn := fun _ => fun
  | [d1, d2] => { results := [.lit (.bool true)], args := [d1, d2] }
  | _ => none }
def bucketMeterRow : OpenClaim := { program := "ytgogagapapdlgaa", sum := "ea2f5c393c096ae554df382f839601cfc8803b873a7038b7d8b0bd1ef9076787", func := "bazaar/bazaarlaw13.BucketMeter", spec := "bucketMeter", apart := false }
def BucketMeterSaid : Prop := bucketMeterRow.holds Try.pinned (OpenSpec.ofChange bucketMeterSpec)

/-- ITS FALSE NEIGHBOUR: 'it returns false'. Refute it at one input. -/
def bucketMeterWrong : ChangeSpec := { name := "bucketMeter", fn := fun _ => fun
  | [d1, d2] => { results := [.lit (.bool false)], args := [d1, d2] }
  | _ => none }
def BucketMeterWrongFalsely : Prop := bucketMeterRow.holds Try.pinned (OpenSpec.ofChange bucketMeterWrong)

/-- 'bazaarlaw13.BucketSpan': WHATEVER THE INPUT: true; the input reads as it did. -/
def bucketSpanSpec : ChangeSpec := { name := "bucketSpan", fn := fun _ => fun
  | [d1, d2, d3] => { results := [.lit (.bool true)], args := [d1, d2, d3] }
  | _ => none }
def bucketSpanRow : OpenClaim := { program := "ytgogagapapdlgaa", sum := "ea2f5c393c096ae554df382f839601cfc8803b873a7038b7d8b0bd1ef9076787", func := "bazaar/bazaarlaw13.BucketSpan", spec := "bucketSpan", apart := false }
def BucketSpanSaid : Prop := bucketSpanRow.holds Try.pinned (OpenSpec.ofChange bucketSpanSpec)

/-- ITS FALSE NEIGHBOUR: 'it returns false'. Refute it at one input. -/
def bucketSpanWrong : ChangeSpec := { name := "bucketSpan", fn := fun _ => fun
  | [d1, d2, d3] => { results := [.lit (.bool false)], args := [d1, d2, d3] }
  | _ => none }
def BucketSpanWrongFalsely : Prop := bucketSpanRow.holds Try.pinned (OpenSpec.ofChange bucketSpanWrong)

/-- 'bazaarlaw13.BucketPatience': WHATEVER THE INPUT: true; the input reads as it did. -/
def bucketPatienceSpec : ChangeSpec := { name := "bucketPatience", fn := fun _ => fun
  | [d1, d2, d3, d4] => { results := [.lit (.bool true)], args := [d1, d2, d3, d4] }
  | _ => none }
def bucketPatienceRow : OpenClaim := { program := "ytgogagapapdlgaa", sum := "ea2f5c393c096ae554df382f839601cfc8803b873a7038b7d8b0bd1ef9076787", func := "bazaar/bazaarlaw13.BucketPatience", spec := "bucketPatience", apart := false }
def BucketPatienceSaid : Prop := bucketPatienceRow.holds Try.pinned (OpenSpec.ofChange bucketPatienceSpec)

/-- ITS FALSE NEIGHBOUR: 'it returns false'. Refute it at one input. -/
def bucketPatienceWrong : ChangeSpec := { name := "bucketPatience", fn := fun _ => fun
  | [d1, d2, d3, d4] => { results := [.lit (.bool false)], args := [d1, d2, d3, d4] }
  | _ => none }
def BucketPatienceWrongFalsely : Prop := bucketPatienceRow.holds Try.pinned (OpenSpec.ofChange bucketPatienceWrong)

/-- 'bazaarlaw13.BucketScripts': WHATEVER THE INPUT: true; the input reads as it did. -/
def bucketScriptsSpec : ChangeSpec := { name := "bucketScripts", fn := fun _ => fun
  | [d1, d2] => { results := [.lit (.bool true)], args := [d1, d2] }
  | _ => none }
def bucketScriptsRow : OpenClaim := { program := "ytgogagapapdlgaa", sum := "ea2f5c393c096ae554df382f839601cfc8803b873a7038b7d8b0bd1ef9076787", func := "bazaar/bazaarlaw13.BucketScripts", spec := "bucketScripts", inPlace := ["math.Float32bits"], apart := false }
def BucketScriptsSaid : Prop := bucketScriptsRow.holds Try.pinned (OpenSpec.ofChange bucketScriptsSpec)

/-- ITS FALSE NEIGHBOUR: 'it returns false'. Refute it at one input. -/
def bucketScriptsWrong : ChangeSpec := { name := "bucketScripts", fn := fun _ => fun
  | [d1, d2] => { results := [.lit (.bool false)], args := [d1, d2] }
  | _ => none }
def BucketScriptsWrongFalsely : Prop := bucketScriptsRow.holds Try.pinned (OpenSpec.ofChange bucketScriptsWrong)

/- THE SECOND FORM. 'bulk': how many values and letters a reading holds, each counted each time it is reached (what is shared counts as often as it is met; a slice's spare places count too). A statement '..UptoSaid' is the law's where the arguments, and the package variables that the reading takes, are together of bulk at most 1048576: NARROWER than '..Said'. Prove '..Said' where nothing that the law and all that it calls make is longer than what came in: it says more and counts as full. Else prove '..UptoSaid'. A law counts once. -/
mutual
def uptoBulk {H : Type} : DataW H → Nat
  | .lit (.string bytes) => bytes.length + 1
  | .lit _ => 1
  | .nil => 1
  | .ptr d => uptoBulk d + 1
  | .slice elems spare => uptoBulkAll elems + uptoBulkAll spare + 1
  | .agg parts => uptoBulkAll parts + 1
  | .iface _ d => uptoBulk d + 1
  | .map entries => uptoBulkEntries entries + 1
  | .held _ => 1
def uptoBulkAll {H : Type} : List (DataW H) → Nat
  | [] => 0
  | d :: r => uptoBulk d + uptoBulkAll r
def uptoBulkEntries {H : Type} : List (Lit × DataW H) → Nat
  | [] => 0
  | x :: r => uptoBulkEntry x + uptoBulkEntries r
def uptoBulkEntry {H : Type} : Lit × DataW H → Nat
  | (.string bytes, d) => bytes.length + uptoBulk d + 1
  | (_, d) => uptoBulk d + 1
 end
def uptoSmall : (H : Type) → List (DataW H) → Bool := fun _ ds => decide (uptoBulkAll ds ≤ 1048576)
def OpenSpec.upto (s : _root_.Go.ChangeSpec) : _root_.Go.OpenSpec := { _root_.Go.OpenSpec.ofChange s with cond := some uptoSmall }

/-- 'bazaarlaw13.BucketMeter', WHERE WHAT IT READS IS OF BULK AT MOST 1048576: true; the input reads as it did. -/
def bucketMeterUptoRow : OpenClaim := { program := "ytgogagapapdlgaa", sum := "ea2f5c393c096ae554df382f839601cfc8803b873a7038b7d8b0bd1ef9076787", func := "bazaar/bazaarlaw13.BucketMeter", spec := "bucketMeter", apart := false, narrowed := true }
def BucketMeterUptoSaid : Prop := bucketMeterUptoRow.holds Try.pinned (OpenSpec.upto bucketMeterSpec)

/-- 'bazaarlaw13.BucketSpan', WHERE WHAT IT READS IS OF BULK AT MOST 1048576: true; the input reads as it did. -/
def bucketSpanUptoRow : OpenClaim := { program := "ytgogagapapdlgaa", sum := "ea2f5c393c096ae554df382f839601cfc8803b873a7038b7d8b0bd1ef9076787", func := "bazaar/bazaarlaw13.BucketSpan", spec := "bucketSpan", apart := false, narrowed := true }
def BucketSpanUptoSaid : Prop := bucketSpanUptoRow.holds Try.pinned (OpenSpec.upto bucketSpanSpec)

/-- 'bazaarlaw13.BucketPatience', WHERE WHAT IT READS IS OF BULK AT MOST 1048576: true; the input reads as it did. -/
def bucketPatienceUptoRow : OpenClaim := { program := "ytgogagapapdlgaa", sum := "ea2f5c393c096ae554df382f839601cfc8803b873a7038b7d8b0bd1ef9076787", func := "bazaar/bazaarlaw13.BucketPatience", spec := "bucketPatience", apart := false, narrowed := true }
def BucketPatienceUptoSaid : Prop := bucketPatienceUptoRow.holds Try.pinned (OpenSpec.upto bucketPatienceSpec)

/-- 'bazaarlaw13.BucketScripts', WHERE WHAT IT READS IS OF BULK AT MOST 1048576: true; the input reads as it did. -/
def bucketScriptsUptoRow : OpenClaim := { program := "ytgogagapapdlgaa", sum := "ea2f5c393c096ae554df382f839601cfc8803b873a7038b7d8b0bd1ef9076787", func := "bazaar/bazaarlaw13.BucketScripts", spec := "bucketScripts", inPlace := ["math.Float32bits"], apart := false, narrowed := true }
def BucketScriptsUptoSaid : Prop := bucketScriptsUptoRow.holds Try.pinned (OpenSpec.upto bucketScriptsSpec)

end Rows
end Go.Proofs.Ytgogagapapdlgaa
