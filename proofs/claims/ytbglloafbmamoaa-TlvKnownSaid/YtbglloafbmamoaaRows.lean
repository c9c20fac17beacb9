/-
  No cell of these rows narrows 'for every input' (looked for: loops, veiled, ifaces, maps, wideKeys, modest, calm, conditions, laid).
  DERIVED. THE GIVEN ROWS OF THIS SEAT. 12 by the template 'for every input the law returns true; each argument reads behind the call as it read before'; 0 by the template 'total and deterministic' (their statements: YtbglloafbmamoaaTotals.lean).
  GIVEN WITH THE SEED: the statements are not yours to turn. If you find one false, say at which input.
  Laid BY PROGRAM, IN A SANDBOX (cutbox-rows.mjs): the forced cells as the released guide's own fill.sh prints them over the translation 03a0d1c8fd766925… (all of the seat's roots in one cut). By AI agents, Wed Nov 11 2026. No macro, syntax, notation, axiom, sorry.
-/
import Derived.Test.YtbglloafbmamoaaChecked
import GoSem.Claim
import GoSem.ClaimJoined
import GoSem.ClaimMapViews
import Derived.JoinedTies
import Derived.KernelRfl
namespace Go.Proofs.Ytbglloafbmamoaa
/- THE CELL 'sum', in the pinned program and in every row, IS THE sha256 OF THE DUMP (.gsa) THAT YtbglloafbmamoaaProg.lean LOADS. Nothing in Lean hashes anything: it is a label: what it is worth is what the hold of that sum in a sandbox is worth. -/
noncomputable def Try.pinned : Pinned := { name := "ytbglloafbmamoaa", sum := "03a0d1c8fd76692501ba01e6bad2a6164689f63f16b4b04fd6567343e33bce53", checked := Try.checked }
namespace Rows
def none {H : Type} : Left H := { results := [], args := [] }

/-- 'bazaarlaw02.TlvNumbers': WHATEVER THE INPUT: true; the input reads as it did. -/
def tlvNumbersSpec : ChangeSpec := { name := "tlvNumbers", fn := fun _ => fun
  | [d1, d2, d3] => { results := [.lit (.bool true)], args := [d1, d2, d3] }
  | _ => none }
def tlvNumbersRow : OpenClaim := { program := "ytbglloafbmamoaa", sum := "03a0d1c8fd76692501ba01e6bad2a6164689f63f16b4b04fd6567343e33bce53", func := "bazaar/bazaarlaw02.TlvNumbers", spec := "tlvNumbers", apart := false }
def TlvNumbersSaid : Prop := tlvNumbersRow.holds Try.pinned (OpenSpec.ofChange tlvNumbersSpec)

/-- ITS FALSE NEIGHBOUR: 'it returns false'. Refute it at one input. -/
def tlvNumbersWrong : ChangeSpec := { name := "tlvNumbers", fn := fun _ => fun
  | [d1, d2, d3] => { results := [.lit (.bool false)], args := [d1, d2, d3] }
  | _ => none }
def TlvNumbersWrongFalsely : Prop := tlvNumbersRow.holds Try.pinned (OpenSpec.ofChange tlvNumbersWrong)

/-- 'bazaarlaw02.TlvPuts': WHATEVER THE INPUT: true; the input reads as it did. -/
def tlvPutsSpec : ChangeSpec := { name := "tlvPuts", fn := fun _ => fun
  | [d] => { results := [.lit (.bool true)], args := [d] }
  | _ => none }
def tlvPutsRow : OpenClaim := { program := "ytbglloafbmamoaa", sum := "03a0d1c8fd76692501ba01e6bad2a6164689f63f16b4b04fd6567343e33bce53", func := "bazaar/bazaarlaw02.TlvPuts", spec := "tlvPuts", apart := false }
def TlvPutsSaid : Prop := tlvPutsRow.holds Try.pinned (OpenSpec.ofChange tlvPutsSpec)

/-- ITS FALSE NEIGHBOUR: 'it returns false'. Refute it at one input. -/
def tlvPutsWrong : ChangeSpec := { name := "tlvPuts", fn := fun _ => fun
  | [d] => { results := [.lit (.bool false)], args := [d] }
  | _ => none }
def TlvPutsWrongFalsely : Prop := tlvPutsRow.holds Try.pinned (OpenSpec.ofChange tlvPutsWrong)

/-- 'bazaarlaw02.TlvWrites': WHATEVER THE INPUT: true; the input reads as it did. -/
def tlvWritesSpec : ChangeSpec := { name := "tlvWrites", fn := fun _ => fun
  | [d] => { results := [.lit (.bool true)], args := [d] }
  | _ => none }
def tlvWritesRow : OpenClaim := { program := "ytbglloafbmamoaa", sum := "03a0d1c8fd76692501ba01e6bad2a6164689f63f16b4b04fd6567343e33bce53", func := "bazaar/bazaarlaw02.TlvWrites", spec := "tlvWrites", apart := false }
def TlvWritesSaid : Prop := tlvWritesRow.holds Try.pinned (OpenSpec.ofChange tlvWritesSpec)

/-- ITS FALSE NEIGHBOUR: 'it returns false'. Refute it at one input. -/
def tlvWritesWrong : ChangeSpec := { name := "tlvWrites", fn := fun _ => fun
  | [d] => { results := [.lit (.bool false)], args := [d] }
  | _ => none }
def TlvWritesWrongFalsely : Prop := tlvWritesRow.holds Try.pinned (OpenSpec.ofChange tlvWritesWrong)

/-- 'bazaarlaw02.TlvGets': WHATEVER THE INPUT: true; the input reads as it did. -/
def tlvGetsSpec : ChangeSpec := { name := "tlvGets", fn := fun _ => fun
  | [d] => { results := [.lit (.bool true)], args := [d] }
  | _ => none }
def tlvGetsRow : OpenClaim := { program := "ytbglloafbmamoaa", sum := "03a0d1c8fd76692501ba01e6bad2a6164689f63f16b4b04fd6567343e33bce53", func := "bazaar/bazaarlaw02.TlvGets", spec := "tlvGets", apart := false }
def TlvGetsSaid : Prop := tlvGetsRow.holds Try.pinned (OpenSpec.ofChange tlvGetsSpec)

/-- ITS FALSE NEIGHBOUR: 'it returns false'. Refute it at one input. -/
def tlvGetsWrong : ChangeSpec := { name := "tlvGets", fn := fun _ => fun
  | [d] => { results := [.lit (.bool false)], args := [d] }
  | _ => none }
def TlvGetsWrongFalsely : Prop := tlvGetsRow.holds Try.pinned (OpenSpec.ofChange tlvGetsWrong)

/-- 'bazaarlaw02.TlvLists': WHATEVER THE INPUT: true; the input reads as it did. -/
def tlvListsSpec : ChangeSpec := { name := "tlvLists", fn := fun _ => fun
  | [d1, d2] => { results := [.lit (.bool true)], args := [d1, d2] }
  | _ => none }
def tlvListsRow : OpenClaim := { program := "ytbglloafbmamoaa", sum := "03a0d1c8fd76692501ba01e6bad2a6164689f63f16b4b04fd6567343e33bce53", func := "bazaar/bazaarlaw02.TlvLists", spec := "tlvLists", apart := false }
def TlvListsSaid : Prop := tlvListsRow.holds Try.pinned (OpenSpec.ofChange tlvListsSpec)

/-- ITS FALSE NEIGHBOUR: 'it returns false'. Refute it at one input. -/
def tlvListsWrong : ChangeSpec := { name := "tlvLists", fn := fun _ => fun
  | [d1, d2] => { results := [.lit (.bool false)], args := [d1, d2] }
  | _ => none }
def TlvListsWrongFalsely : Prop := tlvListsRow.holds Try.pinned (OpenSpec.ofChange tlvListsWrong)

/-- 'bazaarlaw02.TlvBehind': WHATEVER THE INPUT: true; the input reads as it did. -/
def tlvBehindSpec : ChangeSpec := { name := "tlvBehind", fn := fun _ => fun
  | [d1, d2, d3] => { results := [.lit (.bool true)], args := [d1, d2, d3] }
  | _ => none }
def tlvBehindRow : OpenClaim := { program := "ytbglloafbmamoaa", sum := "03a0d1c8fd76692501ba01e6bad2a6164689f63f16b4b04fd6567343e33bce53", func := "bazaar/bazaarlaw02.TlvBehind", spec := "tlvBehind", apart := false }
def TlvBehindSaid : Prop := tlvBehindRow.holds Try.pinned (OpenSpec.ofChange tlvBehindSpec)

/-- ITS FALSE NEIGHBOUR: 'it returns false'. Refute it at one input. -/
def tlvBehindWrong : ChangeSpec := { name := "tlvBehind", fn := fun _ => fun
  | [d1, d2, d3] => { results := [.lit (.bool false)], args := [d1, d2, d3] }
  | _ => none }
def TlvBehindWrongFalsely : Prop := tlvBehindRow.holds Try.pinned (OpenSpec.ofChange tlvBehindWrong)

/-- 'bazaarlaw02.TlvReads': WHATEVER THE INPUT: true; the input reads as it did. -/
def tlvReadsSpec : ChangeSpec := { name := "tlvReads", fn := fun _ => fun
  | [d1, d2] => { results := [.lit (.bool true)], args := [d1, d2] }
  | _ => none }
def tlvReadsRow : OpenClaim := { program := "ytbglloafbmamoaa", sum := "03a0d1c8fd76692501ba01e6bad2a6164689f63f16b4b04fd6567343e33bce53", func := "bazaar/bazaarlaw02.TlvReads", spec := "tlvReads", apart := false }
def TlvReadsSaid : Prop := tlvReadsRow.holds Try.pinned (OpenSpec.ofChange tlvReadsSpec)

/-- ITS FALSE NEIGHBOUR: 'it returns false'. Refute it at one input. -/
def tlvReadsWrong : ChangeSpec := { name := "tlvReads", fn := fun _ => fun
  | [d1, d2] => { results := [.lit (.bool false)], args := [d1, d2] }
  | _ => none }
def TlvReadsWrongFalsely : Prop := tlvReadsRow.holds Try.pinned (OpenSpec.ofChange tlvReadsWrong)

/-- 'bazaarlaw02.TlvOne': WHATEVER THE INPUT: true; the input reads as it did. -/
def tlvOneSpec : ChangeSpec := { name := "tlvOne", fn := fun _ => fun
  | [d] => { results := [.lit (.bool true)], args := [d] }
  | _ => none }
def tlvOneRow : OpenClaim := { program := "ytbglloafbmamoaa", sum := "03a0d1c8fd76692501ba01e6bad2a6164689f63f16b4b04fd6567343e33bce53", func := "bazaar/bazaarlaw02.TlvOne", spec := "tlvOne", apart := false }
def TlvOneSaid : Prop := tlvOneRow.holds Try.pinned (OpenSpec.ofChange tlvOneSpec)

/-- ITS FALSE NEIGHBOUR: 'it returns false'. Refute it at one input. -/
def tlvOneWrong : ChangeSpec := { name := "tlvOne", fn := fun _ => fun
  | [d] => { results := [.lit (.bool false)], args := [d] }
  | _ => none }
def TlvOneWrongFalsely : Prop := tlvOneRow.holds Try.pinned (OpenSpec.ofChange tlvOneWrong)

/-- 'bazaarlaw02.TlvTwo': WHATEVER THE INPUT: true; the input reads as it did. -/
def tlvTwoSpec : ChangeSpec := { name := "tlvTwo", fn := fun _ => fun
  | [d1, d2, d3] => { results := [.lit (.bool true)], args := [d1, d2, d3] }
  | _ => none }
def tlvTwoRow : OpenClaim := { program := "ytbglloafbmamoaa", sum := "03a0d1c8fd76692501ba01e6bad2a6164689f63f16b4b04fd6567343e33bce53", func := "bazaar/bazaarlaw02.TlvTwo", spec := "tlvTwo", apart := false }
def TlvTwoSaid : Prop := tlvTwoRow.holds Try.pinned (OpenSpec.ofChange tlvTwoSpec)

/-- ITS FALSE NEIGHBOUR: 'it returns false'. Refute it at one input. -/
def tlvTwoWrong : ChangeSpec := { name := "tlvTwo", fn := fun _ => fun
  | [d1, d2, d3] => { results := [.lit (.bool false)], args := [d1, d2, d3] }
  | _ => none }
def TlvTwoWrongFalsely : Prop := tlvTwoRow.holds Try.pinned (OpenSpec.ofChange tlvTwoWrong)

/-- 'bazaarlaw02.TlvBack': WHATEVER THE INPUT: true; the input reads as it did. -/
def tlvBackSpec : ChangeSpec := { name := "tlvBack", fn := fun _ => fun
  | [d1, d2, d3, d4, d5] => { results := [.lit (.bool true)], args := [d1, d2, d3, d4, d5] }
  | _ => none }
def tlvBackRow : OpenClaim := { program := "ytbglloafbmamoaa", sum := "03a0d1c8fd76692501ba01e6bad2a6164689f63f16b4b04fd6567343e33bce53", func := "bazaar/bazaarlaw02.TlvBack", spec := "tlvBack", apart := false }
def TlvBackSaid : Prop := tlvBackRow.holds Try.pinned (OpenSpec.ofChange tlvBackSpec)

/-- ITS FALSE NEIGHBOUR: 'it returns false'. Refute it at one input. -/
def tlvBackWrong : ChangeSpec := { name := "tlvBack", fn := fun _ => fun
  | [d1, d2, d3, d4, d5] => { results := [.lit (.bool false)], args := [d1, d2, d3, d4, d5] }
  | _ => none }
def TlvBackWrongFalsely : Prop := tlvBackRow.holds Try.pinned (OpenSpec.ofChange tlvBackWrong)

/-- 'bazaarlaw02.TlvOwn': WHATEVER THE INPUT: true; the input reads as it did. -/
def tlvOwnSpec : ChangeSpec := { name := "tlvOwn", fn := fun _ => fun
  | [d1, d2, d3, d4] => { results := [.lit (.bool true)], args := [d1, d2, d3, d4] }
  | _ => none }
def tlvOwnRow : OpenClaim := { program := "ytbglloafbmamoaa", sum := "03a0d1c8fd76692501ba01e6bad2a6164689f63f16b4b04fd6567343e33bce53", func := "bazaar/bazaarlaw02.TlvOwn", spec := "tlvOwn", apart := false }
def TlvOwnSaid : Prop := tlvOwnRow.holds Try.pinned (OpenSpec.ofChange tlvOwnSpec)

/-- ITS FALSE NEIGHBOUR: 'it returns false'. Refute it at one input. -/
def tlvOwnWrong : ChangeSpec := { name := "tlvOwn", fn := fun _ => fun
  | [d1, d2, d3, d4] => { results := [.lit (.bool false)], args := [d1, d2, d3, d4] }
  | _ => none }
def TlvOwnWrongFalsely : Prop := tlvOwnRow.holds Try.pinned (OpenSpec.ofChange tlvOwnWrong)

/-- 'bazaarlaw02.TlvKnown': WHATEVER THE INPUT: true; the input reads as it did. -/
def tlvKnownSpec : ChangeSpec := { name := "tlvKnown", fn := fun _ => fun
  | [] => { results := [.lit (.bool true)], args := [] }
  | _ => none }
def tlvKnownRow : OpenClaim := { program := "ytbglloafbmamoaa", sum := "03a0d1c8fd76692501ba01e6bad2a6164689f63f16b4b04fd6567343e33bce53", func := "bazaar/bazaarlaw02.TlvKnown", spec := "tlvKnown", apart := false }
def TlvKnownSaid : Prop := tlvKnownRow.holds Try.pinned (OpenSpec.ofChange tlvKnownSpec)

/-- ITS FALSE NEIGHBOUR: 'it returns false'. Refute it at one input. -/
def tlvKnownWrong : ChangeSpec := { name := "tlvKnown", fn := fun _ => fun
  | [] => { results := [.lit (.bool false)], args := [] }
  | _ => none }
def TlvKnownWrongFalsely : Prop := tlvKnownRow.holds Try.pinned (OpenSpec.ofChange tlvKnownWrong)

/- THE SECOND FORM. 'bulk': how many values and letters a reading holds, each counted each time it is reached (what is shared counts as often as it is met; a slice's spare places count too). A statement '..UptoSaid' is the law's where the arguments, and the package variables that the reading takes, are together of bulk at most 1048576: NARROWER than '..Said'. Prove '..Said' where nothing that the law and all that it calls make is longer than what came in: it says more and counts as full. Else prove '..UptoSaid'. A law counts once. -/
mutual
def uptoBulk {H : Type} : DataW H → Nat
  | .lit (.string bytes) => bytes.length + 1
  | .lit _ => 1
  | .nil => 1
  | .ptr d => uptoBulk d + 1
  | .slice elems spare => uptoBulkAll elems + uptoBulkAll spare + 1
  | .agg parts => uptoBulkAll parts + 1
  | .iface _ d => uptoBulk d + 1
  | .map entries => uptoBulkEntries entries + 1
  | .held _ => 1
def uptoBulkAll {H : Type} : List (DataW H) → Nat
  | [] => 0
  | d :: r => uptoBulk d + uptoBulkAll r
def uptoBulkEntries {H : Type} : List (Lit × DataW H) → Nat
  | [] => 0
  | x :: r => uptoBulkEntry x + uptoBulkEntries r
def uptoBulkEntry {H : Type} : Lit × DataW H → Nat
  | (.string bytes, d) => bytes.length + uptoBulk d + 1
  | (_, d) => uptoBulk d + 1
 end
def uptoSmall : (H : Type) → List (DataW H) → Bool := fun _ ds => decide (uptoBulkAll ds ≤ 1048576)
def OpenSpec.upto (s : _root_.Go.ChangeSpec) : _root_.Go.OpenSpec := { _root_.Go.OpenSpec.ofChange s with cond := some uptoSmall }

/-- 'bazaarlaw02.TlvNumbers', WHERE WHAT IT READS IS OF BULK AT MOST 1048576: true; the input reads as it did. -/
def tlvNumbersUptoRow : OpenClaim := { program := "ytbglloafbmamoaa", sum := "03a0d1c8fd76692501ba01e6bad2a6164689f63f16b4b04fd6567343e33bce53", func := "bazaar/bazaarlaw02.TlvNumbers", spec := "tlvNumbers", apart := false, narrowed := true }
def TlvNumbersUptoSaid : Prop := tlvNumbersUptoRow.holds Try.pinned (OpenSpec.upto tlvNumbersSpec)

/-- 'bazaarlaw02.TlvPuts', WHERE WHAT IT READS IS OF BULK AT MOST 1048576: true; the input reads as it did. -/
def tlvPutsUptoRow : OpenClaim := { program := "ytbglloafbmamoaa", sum := "03a0d1c8fd76692501ba01e6bad2a6164689f63f16b4b04fd6567343e33bce53", func := "bazaar/bazaarlaw02.TlvPuts", spec := "tlvPuts", apart := false, narrowed := true }
def TlvPutsUptoSaid : Prop := tlvPutsUptoRow.holds Try.pinned (OpenSpec.upto tlvPutsSpec)

/-- 'bazaarlaw02.TlvWrites', WHERE WHAT IT READS IS OF BULK AT MOST 1048576: true; the input reads as it did. -/
def tlvWritesUptoRow : OpenClaim := { program := "ytbglloafbmamoaa", sum := "03a0d1c8fd76692501ba01e6bad2a6164689f63f16b4b04fd6567343e33bce53", func := "bazaar/bazaarlaw02.TlvWrites", spec := "tlvWrites", apart := false, narrowed := true }
def TlvWritesUptoSaid : Prop := tlvWritesUptoRow.holds Try.pinned (OpenSpec.upto tlvWritesSpec)

/-- 'bazaarlaw02.TlvGets', WHERE WHAT IT READS IS OF BULK AT MOST 1048576: true; the input reads as it did. -/
def tlvGetsUptoRow : OpenClaim := { program := "ytbglloafbmamoaa", sum := "03a0d1c8fd76692501ba01e6bad2a6164689f63f16b4b04fd6567343e33bce53", func := "bazaar/bazaarlaw02.TlvGets", spec := "tlvGets", apart := false, narrowed := true }
def TlvGetsUptoSaid : Prop := tlvGetsUptoRow.holds Try.pinned (OpenSpec.upto tlvGetsSpec)

/-- 'bazaarlaw02.TlvLists', WHERE WHAT IT READS IS OF BULK AT MOST 1048576: true; the input reads as it did. -/
def tlvListsUptoRow : OpenClaim := { program := "ytbglloafbmamoaa", sum := "03a0d1c8fd76692501ba01e6bad2a6164689f63f16b4b04fd6567343e33bce53", func := "bazaar/bazaarlaw02.TlvLists", spec := "tlvLists", apart := false, narrowed := true }
def TlvListsUptoSaid : Prop := tlvListsUptoRow.holds Try.pinned (OpenSpec.upto tlvListsSpec)

/-- 'bazaarlaw02.TlvBehind', WHERE WHAT IT READS IS OF BULK AT MOST 1048576: true; the input reads as it did. -/
def tlvBehindUptoRow : OpenClaim := { program := "ytbglloafbmamoaa", sum := "03a0d1c8fd76692501ba01e6bad2a6164689f63f16b4b04fd6567343e33bce53", func := "bazaar/bazaarlaw02.TlvBehind", spec := "tlvBehind", apart := false, narrowed := true }
def TlvBehindUptoSaid : Prop := tlvBehindUptoRow.holds Try.pinned (OpenSpec.upto tlvBehindSpec)

/-- 'bazaarlaw02.TlvReads', WHERE WHAT IT READS IS OF BULK AT MOST 1048576: true; the input reads as it did. -/
def tlvReadsUptoRow : OpenClaim := { program := "ytbglloafbmamoaa", sum := "03a0d1c8fd76692501ba01e6bad2a6164689f63f16b4b04fd6567343e33bce53", func := "bazaar/bazaarlaw02.TlvReads", spec := "tlvReads", apart := false, narrowed := true }
def TlvReadsUptoSaid : Prop := tlvReadsUptoRow.holds Try.pinned (OpenSpec.upto tlvReadsSpec)

/-- 'bazaarlaw02.TlvOne', WHERE WHAT IT READS IS OF BULK AT MOST 1048576: true; the input reads as it did. -/
def tlvOneUptoRow : OpenClaim := { program := "ytbglloafbmamoaa", sum := "03a0d1c8fd76692501ba01e6bad2a6164689f63f16b4b04fd6567343e33bce53", func := "bazaar/bazaarlaw02.TlvOne", spec := "tlvOne", apart := false, narrowed := true }
def TlvOneUptoSaid : Prop := tlvOneUptoRow.holds Try.pinned (OpenSpec.upto tlvOneSpec)

/-- 'bazaarlaw02.TlvTwo', WHERE WHAT IT READS IS OF BULK AT MOST 1048576: true; the input reads as it did. -/
def tlvTwoUptoRow : OpenClaim := { program := "ytbglloafbmamoaa", sum := "03a0d1c8fd76692501ba01e6bad2a6164689f63f16b4b04fd6567343e33bce53", func := "bazaar/bazaarlaw02.TlvTwo", spec := "tlvTwo", apart := false, narrowed := true }
def TlvTwoUptoSaid : Prop := tlvTwoUptoRow.holds Try.pinned (OpenSpec.upto tlvTwoSpec)

/-- 'bazaarlaw02.TlvBack', WHERE WHAT IT READS IS OF BULK AT MOST 1048576: true; the input reads as it did. -/
def tlvBackUptoRow : OpenClaim := { program := "ytbglloafbmamoaa", sum := "03a0d1c8fd76692501ba01e6bad2a6164689f63f16b4b04fd6567343e33bce53", func := "bazaar/bazaarlaw02.TlvBack", spec := "tlvBack", apart := false, narrowed := true }
def TlvBackUptoSaid : Prop := tlvBackUptoRow.holds Try.pinned (OpenSpec.upto tlvBackSpec)

/-- 'bazaarlaw02.TlvOwn', WHERE WHAT IT READS IS OF BULK AT MOST 1048576: true; the input reads as it did. -/
def tlvOwnUptoRow : OpenClaim := { program := "ytbglloafbmamoaa", sum := "03a0d1c8fd76692501ba01e6bad2a6164689f63f16b4b04fd6567343e33bce53", func := "bazaar/bazaarlaw02.TlvOwn", spec := "tlvOwn", apart := false, narrowed := true }
def TlvOwnUptoSaid : Prop := tlvOwnUptoRow.holds Try.pinned (OpenSpec.upto tlvOwnSpec)

/-- 'bazaarlaw02.TlvKnown', WHERE WHAT IT READS IS OF BULK AT MOST 1048576: true; the input reads as it did. -/
def tlvKnownUptoRow : OpenClaim := { program := "ytbglloafbmamoaa", sum := "03a0d1c8fd76692501ba01e6bad2a6164689f63f16b4b04fd6567343e33bce53", func := "bazaar/bazaarlaw02.TlvKnown", spec := "tlvKnown", apart := false, narrowed := true }
def TlvKnownUptoSaid : Prop := tlvKnownUptoRow.holds Try.pinned (OpenSpec.upto tlvKnownSpec)

end Rows
end Go.Proofs.Ytbglloafbmamoaa
