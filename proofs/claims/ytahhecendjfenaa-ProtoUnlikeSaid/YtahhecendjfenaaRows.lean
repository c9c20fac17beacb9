/-
  No cell of these rows narrows 'for every input' (looked for: loops, veiled, ifaces, maps, wideKeys, modest, calm, conditions, laid).
  DERIVED. THE GIVEN ROWS OF THIS SEAT. 6 by the template 'for every input the law returns true; each argument reads behind the call as it read before'; 0 by the template 'total and deterministic' (their statements: YtahhecendjfenaaTotals.lean).
  GIVEN WITH THE SEED: the statements are not yours to turn. If you find one false, say at which input.
  Laid BY PROGRAM, IN A SANDBOX (cutbox-rows.mjs): the forced cells as the released guide's own fill.sh prints them over the translation 320b617055c8768a… (all of the seat's roots in one cut). By AI agents, Wed Nov 11 2026. No macro, syntax, notation, axiom, sorry.
-/
import Derived.Test.YtahhecendjfenaaChecked
import GoSem.Claim
import GoSem.ClaimJoined
import GoSem.ClaimMapViews
import Derived.JoinedTies
import Derived.KernelRfl
namespace Go.Proofs.Ytahhecendjfenaa
/- THE CELL 'sum', in the pinned program and in every row, IS THE sha256 OF THE DUMP (.gsa) THAT YtahhecendjfenaaProg.lean LOADS. Nothing in Lean hashes anything: it is a label: what it is worth is what the hold of that sum in a sandbox is worth. -/
noncomputable def Try.pinned : Pinned := { name := "ytahhecendjfenaa", sum := "320b617055c8768a4c7154bf8b9bc6dcad96832c61fa87209131d252e1b68e86", checked := Try.checked }
namespace Rows
def none {H : Type} : Left H := { results := [], args := [] }

/-- 'bazaarlaw27.ProtoReplies': WHATEVER THE INPUT: true; the input reads as it did. -/
def protoRepliesSpec : ChangeSpec := { name := "protoReplies", fn := fun _ => fun
  | [d] => { results := [.lit (.bool true)], args := [d] }
  | _ => none }
def protoRepliesRow : OpenClaim := { program := "ytahhecendjfenaa", sum := "320b617055c8768a4c7154bf8b9bc6dcad96832c61fa87209131d252e1b68e86", func := "bazaar/bazaarlaw27.ProtoReplies", spec := "protoReplies", apart := false }
def ProtoRepliesSaid : Prop := protoRepliesRow.holds Try.pinned (OpenSpec.ofChange protoRepliesSpec)

/-- ITS FALSE NEIGHBOUR: 'it returns false'. Refute it at one input. -/
def protoRepliesWrong : ChangeSpec := { name := "protoReplies", fn := fun _ => fun
  | [d] => { results := [.lit (.bool false)], args := [d] }
  | _ => none }
def ProtoRepliesWrongFalsely : Prop := protoRepliesRow.holds Try.pinned (OpenSpec.ofChange protoRepliesWrong)

/-- 'bazaarlaw27.ProtoEncodes': WHATEVER THE INPUT: true; the input reads as it did. -/
def protoEncodesSpec : ChangeSpec := { name := "protoEncodes", fn := fun _ => fun
  | [d1, d2] => { results := [.lit (.bool true)], args := [d1, d2] }
  | _ => none }
def protoEncodesRow : OpenClaim := { program := "ytahhecendjfenaa", sum := "320b617055c8768a4c7154bf8b9bc6dcad96832c61fa87209131d252e1b68e86", func := "bazaar/bazaarlaw27.ProtoEncodes", spec := "protoEncodes", unfollowed := true, recurses := true, apart := false }
def ProtoEncodesSaid : Prop := protoEncodesRow.holds Try.pinned (OpenSpec.ofChange protoEncodesSpec)

/-- ITS FALSE NEIGHBOUR: 'it returns false'. Refute it at one input. -/
def protoEncodesWrong : ChangeSpec := { name := "protoEncodes", fn := fun _ => fun
  | [d1, d2] => { results := [.lit (.bool false)], args := [d1, d2] }
  | _ => none }
def ProtoEncodesWrongFalsely : Prop := protoEncodesRow.holds Try.pinned (OpenSpec.ofChange protoEncodesWrong)

/-- 'bazaarlaw27.ProtoDecodes': WHATEVER THE INPUT: true; the input reads as it did. -/
def protoDecodesSpec : ChangeSpec := { name := "protoDecodes", fn := fun _ => fun
  | [d1, d2] => { results := [.lit (.bool true)], args := [d1, d2] }
  | _ => none }
def protoDecodesRow : OpenClaim := { program := "ytahhecendjfenaa", sum := "320b617055c8768a4c7154bf8b9bc6dcad96832c61fa87209131d252e1b68e86", func := "bazaar/bazaarlaw27.ProtoDecodes", spec := "protoDecodes", unfollowed := true, recurses := true, apart := false }
def ProtoDecodesSaid : Prop := protoDecodesRow.holds Try.pinned (OpenSpec.ofChange protoDecodesSpec)

/-- ITS FALSE NEIGHBOUR: 'it returns false'. Refute it at one input. -/
def protoDecodesWrong : ChangeSpec := { name := "protoDecodes", fn := fun _ => fun
  | [d1, d2] => { results := [.lit (.bool false)], args := [d1, d2] }
  | _ => none }
def ProtoDecodesWrongFalsely : Prop := protoDecodesRow.holds Try.pinned (OpenSpec.ofChange protoDecodesWrong)

/-- 'bazaarlaw27.ProtoUnlike': WHATEVER THE INPUT: true; the input reads as it did. -/
def protoUnlikeSpec : ChangeSpec := { name := "protoUnlike", fn := fun _ => fun
  | [d1, d2, d3, d4] => { results := [.lit (.bool true)], args := [d1, d2, d3, d4] }
  | _ => none }
def protoUnlikeRow : OpenClaim := { program := "ytahhecendjfenaa", sum := "320b617055c8768a4c7154bf8b9bc6dcad96832c61fa87209131d252e1b68e86", func := "bazaar/bazaarlaw27.ProtoUnlike", spec := "protoUnlike", unfollowed := true, recurses := true, apart := false }
def ProtoUnlikeSaid : Prop := protoUnlikeRow.holds Try.pinned (OpenSpec.ofChange protoUnlikeSpec)

/-- ITS FALSE NEIGHBOUR: 'it returns false'. Refute it at one input. -/
def protoUnlikeWrong : ChangeSpec := { name := "protoUnlike", fn := fun _ => fun
  | [d1, d2, d3, d4] => { results := [.lit (.bool false)], args := [d1, d2, d3, d4] }
  | _ => none }
def ProtoUnlikeWrongFalsely : Prop := protoUnlikeRow.holds Try.pinned (OpenSpec.ofChange protoUnlikeWrong)

/-- 'bazaarlaw27.ProtoOwn': WHATEVER THE INPUT: true; the input reads as it did. -/
def protoOwnSpec : ChangeSpec := { name := "protoOwn", fn := fun _ => fun
  | [d1, d2, d3] => { results := [.lit (.bool true)], args := [d1, d2, d3] }
  | _ => none }
def protoOwnRow : OpenClaim := { program := "ytahhecendjfenaa", sum := "320b617055c8768a4c7154bf8b9bc6dcad96832c61fa87209131d252e1b68e86", func := "bazaar/bazaarlaw27.ProtoOwn", spec := "protoOwn", unfollowed := true, recurses := true, apart := false }
def ProtoOwnSaid : Prop := protoOwnRow.holds Try.pinned (OpenSpec.ofChange protoOwnSpec)

/-- ITS FALSE NEIGHBOUR: 'it returns false'. Refute it at one input. -/
def protoOwnWrong : ChangeSpec := { name := "protoOwn", fn := fun _ => fun
  | [d1, d2, d3] => { results := [.lit (.bool false)], args := [d1, d2, d3] }
  | _ => none }
def ProtoOwnWrongFalsely : Prop := protoOwnRow.holds Try.pinned (OpenSpec.ofChange protoOwnWrong)

/-- 'bazaarlaw27.ProtoBack': WHATEVER THE INPUT: true; the input reads as it did. -/
def protoBackSpec : ChangeSpec := { name := "protoBack", fn := fun _ => fun
  | [d1, d2, d3] => { results := [.lit (.bool true)], args := [d1, d2, d3] }
  | _ => none }
def protoBackRow : OpenClaim := { program := "ytahhecendjfenaa", sum := "320b617055c8768a4c7154bf8b9bc6dcad96832c61fa87209131d252e1b68e86", func := "bazaar/bazaarlaw27.ProtoBack", spec := "protoBack", unfollowed := true, recurses := true, apart := false }
def ProtoBackSaid : Prop := protoBackRow.holds Try.pinned (OpenSpec.ofChange protoBackSpec)

/-- ITS FALSE NEIGHBOUR: 'it returns false'. Refute it at one input. -/
def protoBackWrong : ChangeSpec := { name := "protoBack", fn := fun _ => fun
  | [d1, d2, d3] => { results := [.lit (.bool false)], args := [d1, d2, d3] }
  | _ => none }
def ProtoBackWrongFalsely : Prop := protoBackRow.holds Try.pinned (OpenSpec.ofChange protoBackWrong)

/- THE SECOND FORM. 'bulk': how many values and letters a reading holds, each counted each time it is reached (what is shared counts as often as it is met; a slice's spare places count too). A statement '..UptoSaid' is the law's where the arguments, and the package variables that the reading takes, are together of bulk at most 1048576: NARROWER than '..Said'. Prove '..Said' where nothing that the law and all that it calls make is longer than what came in: it says more and counts as full. Else prove '..UptoSaid'. A law counts once. -/
mutual
def uptoBulk {H : Type} : DataW H → Nat
  | .lit (.string bytes) => bytes.length + 1
  | .lit _ => 1
  | .nil => 1
  | .ptr d => uptoBulk d + 1
  | .slice elems spare => uptoBulkAll elems + uptoBulkAll spare + 1
  | .agg parts => uptoBulkAll parts + 1
  | .iface _ d => uptoBulk d + 1
  | .map entries => uptoBulkEntries entries + 1
  | .held _ => 1
def uptoBulkAll {H : Type} : List (DataW H) → Nat
  | [] => 0
  | d :: r => uptoBulk d + uptoBulkAll r
def uptoBulkEntries {H : Type} : List (Lit × DataW H) → Nat
  | [] => 0
  | x :: r => uptoBulkEntry x + uptoBulkEntries r
def uptoBulkEntry {H : Type} : Lit × DataW H → Nat
  | (.string bytes, d) => bytes.length + uptoBulk d + 1
  | (_, d) => uptoBulk d + 1
 end
def uptoSmall : (H : Type) → List (DataW H) → Bool := fun _ ds => decide (uptoBulkAll ds ≤ 1048576)
def OpenSpec.upto (s : _root_.Go.ChangeSpec) : _root_.Go.OpenSpec := { _root_.Go.OpenSpec.ofChange s with cond := some uptoSmall }

/-- 'bazaarlaw27.ProtoReplies', WHERE WHAT IT READS IS OF BULK AT MOST 1048576: true; the input reads as it did. -/
def protoRepliesUptoRow : OpenClaim := { program := "ytahhecendjfenaa", sum := "320b617055c8768a4c7154bf8b9bc6dcad96832c61fa87209131d252e1b68e86", func := "bazaar/bazaarlaw27.ProtoReplies", spec := "protoReplies", apart := false, narrowed := true }
def ProtoRepliesUptoSaid : Prop := protoRepliesUptoRow.holds Try.pinned (OpenSpec.upto protoRepliesSpec)

/-- 'bazaarlaw27.ProtoEncodes', WHERE WHAT IT READS IS OF BULK AT MOST 1048576: true; the input reads as it did. -/
def protoEncodesUptoRow : OpenClaim := { program := "ytahhecendjfenaa", sum := "320b617055c8768a4c7154bf8b9bc6dcad96832c61fa87209131d252e1b68e86", func := "bazaar/bazaarlaw27.ProtoEncodes", spec := "protoEncodes", unfollowed := true, recurses := true, apart := false, narrowed := true }
def ProtoEncodesUptoSaid : Prop := protoEncodesUptoRow.holds Try.pinned (OpenSpec.upto protoEncodesSpec)

/-- 'bazaarlaw27.ProtoDecodes', WHERE WHAT IT READS IS OF BULK AT MOST 1048576: true; the input reads as it did. -/
def protoDecodesUptoRow : OpenClaim := { program := "ytahhecendjfenaa", sum := "320b617055c8768a4c7154bf8b9bc6dcad96832c61fa87209131d252e1b68e86", func := "bazaar/bazaarlaw27.ProtoDecodes", spec := "protoDecodes", unfollowed := true, recurses := true, apart := false, narrowed := true }
def ProtoDecodesUptoSaid : Prop := protoDecodesUptoRow.holds Try.pinned (OpenSpec.upto protoDecodesSpec)

/-- 'bazaarlaw27.ProtoUnlike', WHERE WHAT IT READS IS OF BULK AT MOST 1048576: true; the input reads as it did. -/
def protoUnlikeUptoRow : OpenClaim := { program := "ytahhecendjfenaa", sum := "320b617055c8768a4c7154bf8b9bc6dcad96832c61fa87209131d252e1b68e86", func := "bazaar/bazaarlaw27.ProtoUnlike", spec := "protoUnlike", unfollowed := true, recurses := true, apart := false, narrowed := true }
def ProtoUnlikeUptoSaid : Prop := protoUnlikeUptoRow.holds Try.pinned (OpenSpec.upto protoUnlikeSpec)

/-- 'bazaarlaw27.ProtoOwn', WHERE WHAT IT READS IS OF BULK AT MOST 1048576: true; the input reads as it did. -/
def protoOwnUptoRow : OpenClaim := { program := "ytahhecendjfenaa", sum := "320b617055c8768a4c7154bf8b9bc6dcad96832c61fa87209131d252e1b68e86", func := "bazaar/bazaarlaw27.ProtoOwn", spec := "protoOwn", unfollowed := true, recurses := true, apart := false, narrowed := true }
def ProtoOwnUptoSaid : Prop := protoOwnUptoRow.holds Try.pinned (OpenSpec.upto protoOwnSpec)

/-- 'bazaarlaw27.ProtoBack', WHERE WHAT IT READS IS OF BULK AT MOST 1048576: true; the input reads as it did. -/
def protoBackUptoRow : OpenClaim := { program := "ytahhecendjfenaa", sum := "320b617055c8768a4c7154bf8b9bc6dcad96832c61fa87209131d252e1b68e86", func := "bazaar/bazaarlaw27.ProtoBack", spec := "protoBack", unfollowed := true, recurses := true, apart := false, narrowed := true }
def ProtoBackUptoSaid : Prop := protoBackUptoRow.holds Try.pinned (OpenSpec.upto protoBackSpec)

end Rows
end Go.Proofs.Ytahhecendjfenaa
