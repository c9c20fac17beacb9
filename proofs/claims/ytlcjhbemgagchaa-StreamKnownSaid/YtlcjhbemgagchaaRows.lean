/-
  No cell of these rows narrows 'for every input' (looked for: loops, veiled, ifaces, maps, wideKeys, modest, calm, conditions, laid).
  DERIVED. THE GIVEN ROWS OF THIS SEAT. 7 by the template 'for every input the law returns true; each argument reads behind the call as it read before'; 0 by the template 'total and deterministic' (their statements: YtlcjhbemgagchaaTotals.lean).
  GIVEN WITH THE SEED: the statements are not yours to turn. If you find one false, say at which input.
  Laid BY PROGRAM, IN A SANDBOX (cutbox-rows.mjs): the forced cells as the released guide's own fill.sh prints them over the translation 9765fe5ae53e4c05… (all of the seat's roots in one cut). By AI agents, Wed Nov 11 2026. No macro, syntax, notation, axiom, sorry.
-/
import Derived.Test.YtlcjhbemgagchaaChecked
import GoSem.Claim
import GoSem.ClaimJoined
import GoSem.ClaimMapViews
import Derived.JoinedTies
import Derived.KernelRfl
namespace Go.Proofs.Ytlcjhbemgagchaa
/- THE CELL 'sum', in the pinned program and in every row, IS THE sha256 OF THE DUMP (.gsa) THAT YtlcjhbemgagchaaProg.lean LOADS. Nothing in Lean hashes anything: it is a label: what it is worth is what the hold of that sum in a sandbox is worth. -/
noncomputable def Try.pinned : Pinned := { name := "ytlcjhbemgagchaa", sum := "9765fe5ae53e4c05cbf153c8b5fd42be9ef84bcd88137bc1d8272cb5814dbdc8", checked := Try.checked }
namespace Rows
def none {H : Type} : Left H := { results := [], args := [] }

/-- 'bazaarlaw29.StreamFrames': WHATEVER THE INPUT: true; the input reads as it did. -/
def streamFramesSpec : ChangeSpec := { name := "streamFrames", fn := fun _ => fun
  | [d1, d2, d3] => { results := [.lit (.bool true)], args := [d1, d2, d3] }
  | _ => none }
def streamFramesRow : OpenClaim := { program := "ytlcjhbemgagchaa", sum := "9765fe5ae53e4c05cbf153c8b5fd42be9ef84bcd88137bc1d8272cb5814dbdc8", func := "bazaar/bazaarlaw29.StreamFrames", spec := "streamFrames", unfollowed := true, recurses := true, apart := false }
def StreamFramesSaid : Prop := streamFramesRow.holds Try.pinned (OpenSpec.ofChange streamFramesSpec)

/-- ITS FALSE NEIGHBOUR: 'it returns false'. Refute it at one input. -/
def streamFramesWrong : ChangeSpec := { name := "streamFrames", fn := fun _ => fun
  | [d1, d2, d3] => { results := [.lit (.bool false)], args := [d1, d2, d3] }
  | _ => none }
def StreamFramesWrongFalsely : Prop := streamFramesRow.holds Try.pinned (OpenSpec.ofChange streamFramesWrong)

/-- 'bazaarlaw29.StreamReplies': WHATEVER THE INPUT: true; the input reads as it did. -/
def streamRepliesSpec : ChangeSpec := { name := "streamReplies", fn := fun _ => fun
  | [d] => { results := [.lit (.bool true)], args := [d] }
  | _ => none }
def streamRepliesRow : OpenClaim := { program := "ytlcjhbemgagchaa", sum := "9765fe5ae53e4c05cbf153c8b5fd42be9ef84bcd88137bc1d8272cb5814dbdc8", func := "bazaar/bazaarlaw29.StreamReplies", spec := "streamReplies", apart := false }
def StreamRepliesSaid : Prop := streamRepliesRow.holds Try.pinned (OpenSpec.ofChange streamRepliesSpec)

/-- ITS FALSE NEIGHBOUR: 'it returns false'. Refute it at one input. -/
def streamRepliesWrong : ChangeSpec := { name := "streamReplies", fn := fun _ => fun
  | [d] => { results := [.lit (.bool false)], args := [d] }
  | _ => none }
def StreamRepliesWrongFalsely : Prop := streamRepliesRow.holds Try.pinned (OpenSpec.ofChange streamRepliesWrong)

/-- 'bazaarlaw29.StreamFeeds': WHATEVER THE INPUT: true; the input reads as it did. -/
def streamFeedsSpec : ChangeSpec := { name := "streamFeeds", fn := fun _ => fun
  | [d] => { results := [.lit (.bool true)], args := [d] }
  | _ => none }
def streamFeedsRow : OpenClaim := { program := "ytlcjhbemgagchaa", sum := "9765fe5ae53e4c05cbf153c8b5fd42be9ef84bcd88137bc1d8272cb5814dbdc8", func := "bazaar/bazaarlaw29.StreamFeeds", spec := "streamFeeds", unfollowed := true, recurses := true, apart := false }
def StreamFeedsSaid : Prop := streamFeedsRow.holds Try.pinned (OpenSpec.ofChange streamFeedsSpec)

/-- ITS FALSE NEIGHBOUR: 'it returns false'. Refute it at one input. -/
def streamFeedsWrong : ChangeSpec := { name := "streamFeeds", fn := fun _ => fun
  | [d] => { results := [.lit (.bool false)], args := [d] }
  | _ => none }
def StreamFeedsWrongFalsely : Prop := streamFeedsRow.holds Try.pinned (OpenSpec.ofChange streamFeedsWrong)

/-- 'bazaarlaw29.StreamCuts': WHATEVER THE INPUT: true; the input reads as it did. -/
def streamCutsSpec : ChangeSpec := { name := "streamCuts", fn := fun _ => fun
  | [d1, d2, d3] => { results := [.lit (.bool true)], args := [d1, d2, d3] }
  | _ => none }
def streamCutsRow : OpenClaim := { program := "ytlcjhbemgagchaa", sum := "9765fe5ae53e4c05cbf153c8b5fd42be9ef84bcd88137bc1d8272cb5814dbdc8", func := "bazaar/bazaarlaw29.StreamCuts", spec := "streamCuts", unfollowed := true, recurses := true, apart := false }
def StreamCutsSaid : Prop := streamCutsRow.holds Try.pinned (OpenSpec.ofChange streamCutsSpec)

/-- ITS FALSE NEIGHBOUR: 'it returns false'. Refute it at one input. -/
def streamCutsWrong : ChangeSpec := { name := "streamCuts", fn := fun _ => fun
  | [d1, d2, d3] => { results := [.lit (.bool false)], args := [d1, d2, d3] }
  | _ => none }
def StreamCutsWrongFalsely : Prop := streamCutsRow.holds Try.pinned (OpenSpec.ofChange streamCutsWrong)

/-- 'bazaarlaw29.StreamKnown': WHATEVER THE INPUT: true; the input reads as it did. -/
def streamKnownSpec : ChangeSpec := { name := "streamKnown", fn := fun _ => fun
  | [] => { results := [.lit (.bool true)], args := [] }
  | _ => none }
def streamKnownRow : OpenClaim := { program := "ytlcjhbemgagchaa", sum := "9765fe5ae53e4c05cbf153c8b5fd42be9ef84bcd88137bc1d8272cb5814dbdc8", func := "bazaar/bazaarlaw29.StreamKnown", spec := "streamKnown", unfollowed := true, recurses := true, apart := false }
def StreamKnownSaid : Prop := streamKnownRow.holds Try.pinned (OpenSpec.ofChange streamKnownSpec)

/-- ITS FALSE NEIGHBOUR: 'it returns false'. Refute it at one input. -/
def streamKnownWrong : ChangeSpec := { name := "streamKnown", fn := fun _ => fun
  | [] => { results := [.lit (.bool false)], args := [] }
  | _ => none }
def StreamKnownWrongFalsely : Prop := streamKnownRow.holds Try.pinned (OpenSpec.ofChange streamKnownWrong)

/-- 'bazaarlaw29.StreamBack': WHATEVER THE INPUT: true; the input reads as it did. -/
def streamBackSpec : ChangeSpec := { name := "streamBack", fn := fun _ => fun
  | [d1, d2, d3, d4] => { results := [.lit (.bool true)], args := [d1, d2, d3, d4] }
  | _ => none }
def streamBackRow : OpenClaim := { program := "ytlcjhbemgagchaa", sum := "9765fe5ae53e4c05cbf153c8b5fd42be9ef84bcd88137bc1d8272cb5814dbdc8", func := "bazaar/bazaarlaw29.StreamBack", spec := "streamBack", unfollowed := true, recurses := true, apart := false }
def StreamBackSaid : Prop := streamBackRow.holds Try.pinned (OpenSpec.ofChange streamBackSpec)

/-- ITS FALSE NEIGHBOUR: 'it returns false'. Refute it at one input. -/
def streamBackWrong : ChangeSpec := { name := "streamBack", fn := fun _ => fun
  | [d1, d2, d3, d4] => { results := [.lit (.bool false)], args := [d1, d2, d3, d4] }
  | _ => none }
def StreamBackWrongFalsely : Prop := streamBackRow.holds Try.pinned (OpenSpec.ofChange streamBackWrong)

/-- 'bazaarlaw29.StreamOwn': WHATEVER THE INPUT: true; the input reads as it did. -/
def streamOwnSpec : ChangeSpec := { name := "streamOwn", fn := fun _ => fun
  | [d1, d2, d3] => { results := [.lit (.bool true)], args := [d1, d2, d3] }
  | _ => none }
def streamOwnRow : OpenClaim := { program := "ytlcjhbemgagchaa", sum := "9765fe5ae53e4c05cbf153c8b5fd42be9ef84bcd88137bc1d8272cb5814dbdc8", func := "bazaar/bazaarlaw29.StreamOwn", spec := "streamOwn", unfollowed := true, recurses := true, apart := false }
def StreamOwnSaid : Prop := streamOwnRow.holds Try.pinned (OpenSpec.ofChange streamOwnSpec)

/-- ITS FALSE NEIGHBOUR: 'it returns false'. Refute it at one input. -/
def streamOwnWrong : ChangeSpec := { name := "streamOwn", fn := fun _ => fun
  | [d1, d2, d3] => { results := [.lit (.bool false)], args := [d1, d2, d3] }
  | _ => none }
def StreamOwnWrongFalsely : Prop := streamOwnRow.holds Try.pinned (OpenSpec.ofChange streamOwnWrong)

/- THE SECOND FORM. 'bulk': how many values and letters a reading holds, each counted each time it is reached (what is shared counts as often as it is met; a slice's spare places count too). A statement '..UptoSaid' is the law's where the arguments, and the package variables that the reading takes, are together of bulk at most 1048576: NARROWER than '..Said'. Prove '..Said' where nothing that the law and all that it calls make is longer than what came in: it says more and counts as full. Else prove '..UptoSaid'. A law counts once. -/
mutual
def uptoBulk {H : Type} : DataW H → Nat
  | .lit (.string bytes) => bytes.length + 1
  | .lit _ => 1
  | .nil => 1
  | .ptr d => uptoBulk d + 1
  | .slice elems spare => uptoBulkAll elems + uptoBulkAll spare + 1
  | .agg parts => uptoBulkAll parts + 1
  | .iface _ d => uptoBulk d + 1
  | .map entries => uptoBulkEntries entries + 1
  | .held _ => 1
def uptoBulkAll {H : Type} : List (DataW H) → Nat
  | [] => 0
  | d :: r => uptoBulk d + uptoBulkAll r
def uptoBulkEntries {H : Type} : List (Lit × DataW H) → Nat
  | [] => 0
  | x :: r => uptoBulkEntry x + uptoBulkEntries r
def uptoBulkEntry {H : Type} : Lit × DataW H → Nat
  | (.string bytes, d) => bytes.length + uptoBulk d + 1
  | (_, d) => uptoBulk d + 1
 end
def uptoSmall : (H : Type) → List (DataW H) → Bool := fun _ ds => decide (uptoBulkAll ds ≤ 1048576)
def OpenSpec.upto (s : _root_.Go.ChangeSpec) : _root_.Go.OpenSpec := { _root_.Go.OpenSpec.ofChange s with cond := some uptoSmall }

/-- 'bazaarlaw29.StreamFrames', WHERE WHAT IT READS IS OF BULK AT MOST 1048576: true; the input reads as it did. -/
def streamFramesUptoRow : OpenClaim := { program := "ytlcjhbemgagchaa", sum := "9765fe5ae53e4c05cbf153c8b5fd42be9ef84bcd88137bc1d8272cb5814dbdc8", func := "bazaar/bazaarlaw29.StreamFrames", spec := "streamFrames", unfollowed := true, recurses := true, apart := false, narrowed := true }
def StreamFramesUptoSaid : Prop := streamFramesUptoRow.holds Try.pinned (OpenSpec.upto streamFramesSpec)

/-- 'bazaarlaw29.StreamReplies', WHERE WHAT IT READS IS OF BULK AT MOST 1048576: true; the input reads as it did. -/
def streamRepliesUptoRow : OpenClaim := { program := "ytlcjhbemgagchaa", sum := "9765fe5ae53e4c05cbf153c8b5fd42be9ef84bcd88137bc1d8272cb5814dbdc8", func := "bazaar/bazaarlaw29.StreamReplies", spec := "streamReplies", apart := false, narrowed := true }
def StreamRepliesUptoSaid : Prop := streamRepliesUptoRow.holds Try.pinned (OpenSpec.upto streamRepliesSpec)

/-- 'bazaarlaw29.StreamFeeds', WHERE WHAT IT READS IS OF BULK AT MOST 1048576: true; the input reads as it did. -/
def streamFeedsUptoRow : OpenClaim := { program := "ytlcjhbemgagchaa", sum := "9765fe5ae53e4c05cbf153c8b5fd42be9ef84bcd88137bc1d8272cb5814dbdc8", func := "bazaar/bazaarlaw29.StreamFeeds", spec := "streamFeeds", unfollowed := true, recurses := true, apart := false, narrowed := true }
def StreamFeedsUptoSaid : Prop := streamFeedsUptoRow.holds Try.pinned (OpenSpec.upto streamFeedsSpec)

/-- 'bazaarlaw29.StreamCuts', WHERE WHAT IT READS IS OF BULK AT MOST 1048576: true; the input reads as it did. -/
def streamCutsUptoRow : OpenClaim := { program := "ytlcjhbemgagchaa", sum := "9765fe5ae53e4c05cbf153c8b5fd42be9ef84bcd88137bc1d8272cb5814dbdc8", func := "bazaar/bazaarlaw29.StreamCuts", spec := "streamCuts", unfollowed := true, recurses := true, apart := false, narrowed := true }
def StreamCutsUptoSaid : Prop := streamCutsUptoRow.holds Try.pinned (OpenSpec.upto streamCutsSpec)

/-- 'bazaarlaw29.StreamKnown', WHERE WHAT IT READS IS OF BULK AT MOST 1048576: true; the input reads as it did. -/
def streamKnownUptoRow : OpenClaim := { program := "ytlcjhbemgagchaa", sum := "9765fe5ae53e4c05cbf153c8b5fd42be9ef84bcd88137bc1d8272cb5814dbdc8", func := "bazaar/bazaarlaw29.StreamKnown", spec := "streamKnown", unfollowed := true, recurses := true, apart := false, narrowed := true }
def StreamKnownUptoSaid : Prop := streamKnownUptoRow.holds Try.pinned (OpenSpec.upto streamKnownSpec)

/-- 'bazaarlaw29.StreamBack', WHERE WHAT IT READS IS OF BULK AT MOST 1048576: true; the input reads as it did. -/
def streamBackUptoRow : OpenClaim := { program := "ytlcjhbemgagchaa", sum := "9765fe5ae53e4c05cbf153c8b5fd42be9ef84bcd88137bc1d8272cb5814dbdc8", func := "bazaar/bazaarlaw29.StreamBack", spec := "streamBack", unfollowed := true, recurses := true, apart := false, narrowed := true }
def StreamBackUptoSaid : Prop := streamBackUptoRow.holds Try.pinned (OpenSpec.upto streamBackSpec)

/-- 'bazaarlaw29.StreamOwn', WHERE WHAT IT READS IS OF BULK AT MOST 1048576: true; the input reads as it did. -/
def streamOwnUptoRow : OpenClaim := { program := "ytlcjhbemgagchaa", sum := "9765fe5ae53e4c05cbf153c8b5fd42be9ef84bcd88137bc1d8272cb5814dbdc8", func := "bazaar/bazaarlaw29.StreamOwn", spec := "streamOwn", unfollowed := true, recurses := true, apart := false, narrowed := true }
def StreamOwnUptoSaid : Prop := streamOwnUptoRow.holds Try.pinned (OpenSpec.upto streamOwnSpec)

end Rows
end Go.Proofs.Ytlcjhbemgagchaa
