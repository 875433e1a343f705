/-
  No cell of these rows narrows 'for every input' (looked for: loops, veiled, ifaces, maps, wideKeys, modest, calm, conditions, laid).
  DERIVED. THE GIVEN ROWS OF THIS SEAT. 5 by the template 'for every input the law returns true; each argument reads behind the call as it read before'; 0 by the template 'total and deterministic' (their statements: YtkfnjbfnkpameaaTotals.lean).
  GIVEN WITH THE SEED: the statements are not yours to turn. If you find one false, say at which input.
  Laid BY PROGRAM, IN A SANDBOX (cutbox-rows.mjs): the forced cells as the released guide's own fill.sh prints them over the translation 613408898915dc48… (all of the seat's roots in one cut). By AI agents, Wed Nov 11 2026. No macro, syntax, notation, axiom, sorry.
-/
import Derived.Test.YtkfnjbfnkpameaaChecked
import GoSem.Claim
import GoSem.ClaimJoined
import GoSem.ClaimMapViews
import Derived.JoinedTies
import Derived.KernelRfl
namespace Go.Proofs.Ytkfnjbfnkpameaa
/- THE CELL 'sum', in the pinned program and in every row, IS THE sha256 OF THE DUMP (.gsa) THAT YtkfnjbfnkpameaaProg.lean LOADS. Nothing in Lean hashes anything: it is a label: what it is worth is what the hold of that sum in a sandbox is worth. -/
noncomputable def Try.pinned : Pinned := { name := "ytkfnjbfnkpameaa", sum := "613408898915dc48e0965ed74be2c25792e9dbc0d51017fe2460c40da8909b70", checked := Try.checked }
namespace Rows
def none {H : Type} : Left H := { results := [], args := [] }

/-- 'interlacelaw26.MergeStepsAsSpecified': WHATEVER THE INPUT: true; the input reads as it did. -/
def mergeStepsAsSpecifiedSpec : ChangeSpec := { name := "mergeStepsAsSpecified", fn := fun _ => fun
  | [d1, d2, d3] => { results := [.lit (.bool true)], args := [d1, d2, d3] }
  | _ => none }
def mergeStepsAsSpecifiedRow : OpenClaim := { program := "ytkfnjbfnkpameaa", sum := "613408898915dc48e0965ed74be2c25792e9dbc0d51017fe2460c40da8909b70", func := "interlace/interlacelaw26.MergeStepsAsSpecified", spec := "mergeStepsAsSpecified", unfollowed := true, recurses := true, apart := false }
def MergeStepsAsSpecifiedSaid : Prop := mergeStepsAsSpecifiedRow.holds Try.pinned (OpenSpec.ofChange mergeStepsAsSpecifiedSpec)

/-- ITS FALSE NEIGHBOUR: 'it returns false'. Refute it at one input. -/
def mergeStepsAsSpecifiedWrong : ChangeSpec := { name := "mergeStepsAsSpecified", fn := fun _ => fun
  | [d1, d2, d3] => { results := [.lit (.bool false)], args := [d1, d2, d3] }
  | _ => none }
def MergeStepsAsSpecifiedWrongFalsely : Prop := mergeStepsAsSpecifiedRow.holds Try.pinned (OpenSpec.ofChange mergeStepsAsSpecifiedWrong)

/-- 'interlacelaw26.MergeChecksAsSpecified': WHATEVER THE INPUT: true; the input reads as it did. -/
def mergeChecksAsSpecifiedSpec : ChangeSpec := { name := "mergeChecksAsSpecified", fn := fun _ => fun
  | [d1, d2, d3, d4] => { results := [.lit (.bool true)], args := [d1, d2, d3, d4] }
  | _ => none }
def mergeChecksAsSpecifiedRow : OpenClaim := { program := "ytkfnjbfnkpameaa", sum := "613408898915dc48e0965ed74be2c25792e9dbc0d51017fe2460c40da8909b70", func := "interlace/interlacelaw26.MergeChecksAsSpecified", spec := "mergeChecksAsSpecified", unfollowed := true, recurses := true, apart := false }
def MergeChecksAsSpecifiedSaid : Prop := mergeChecksAsSpecifiedRow.holds Try.pinned (OpenSpec.ofChange mergeChecksAsSpecifiedSpec)

/-- ITS FALSE NEIGHBOUR: 'it returns false'. Refute it at one input. -/
def mergeChecksAsSpecifiedWrong : ChangeSpec := { name := "mergeChecksAsSpecified", fn := fun _ => fun
  | [d1, d2, d3, d4] => { results := [.lit (.bool false)], args := [d1, d2, d3, d4] }
  | _ => none }
def MergeChecksAsSpecifiedWrongFalsely : Prop := mergeChecksAsSpecifiedRow.holds Try.pinned (OpenSpec.ofChange mergeChecksAsSpecifiedWrong)

/-- 'interlacelaw26.MergeIsStuck': WHATEVER THE INPUT: true; the input reads as it did. -/
def mergeIsStuckSpec : ChangeSpec := { name := "mergeIsStuck", fn := fun _ => fun
  | [d1, d2] => { results := [.lit (.bool true)], args := [d1, d2] }
  | _ => none }
def mergeIsStuckRow : OpenClaim := { program := "ytkfnjbfnkpameaa", sum := "613408898915dc48e0965ed74be2c25792e9dbc0d51017fe2460c40da8909b70", func := "interlace/interlacelaw26.MergeIsStuck", spec := "mergeIsStuck", unfollowed := true, recurses := true, apart := false }
def MergeIsStuckSaid : Prop := mergeIsStuckRow.holds Try.pinned (OpenSpec.ofChange mergeIsStuckSpec)

/-- ITS FALSE NEIGHBOUR: 'it returns false'. Refute it at one input. -/
def mergeIsStuckWrong : ChangeSpec := { name := "mergeIsStuck", fn := fun _ => fun
  | [d1, d2] => { results := [.lit (.bool false)], args := [d1, d2] }
  | _ => none }
def MergeIsStuckWrongFalsely : Prop := mergeIsStuckRow.holds Try.pinned (OpenSpec.ofChange mergeIsStuckWrong)

/-- 'interlacelaw26.MergeShortens': WHATEVER THE INPUT: true; the input reads as it did. -/
def mergeShortensSpec : ChangeSpec := { name := "mergeShortens", fn := fun _ => fun
  | [d1, d2, d3] => { results := [.lit (.bool true)], args := [d1, d2, d3] }
  | _ => none }
def mergeShortensRow : OpenClaim := { program := "ytkfnjbfnkpameaa", sum := "613408898915dc48e0965ed74be2c25792e9dbc0d51017fe2460c40da8909b70", func := "interlace/interlacelaw26.MergeShortens", spec := "mergeShortens", unfollowed := true, recurses := true, apart := false }
def MergeShortensSaid : Prop := mergeShortensRow.holds Try.pinned (OpenSpec.ofChange mergeShortensSpec)

/-- ITS FALSE NEIGHBOUR: 'it returns false'. Refute it at one input. -/
def mergeShortensWrong : ChangeSpec := { name := "mergeShortens", fn := fun _ => fun
  | [d1, d2, d3] => { results := [.lit (.bool false)], args := [d1, d2, d3] }
  | _ => none }
def MergeShortensWrongFalsely : Prop := mergeShortensRow.holds Try.pinned (OpenSpec.ofChange mergeShortensWrong)

/-- 'interlacelaw26.MergeDropsDropping': WHATEVER THE INPUT: true; the input reads as it did. -/
def mergeDropsDroppingSpec : ChangeSpec := { name := "mergeDropsDropping", fn := fun _ => fun
  | [d1, d2, d3] => { results := [.lit (.bool true)], args := [d1, d2, d3] }
  | _ => none }
def mergeDropsDroppingRow : OpenClaim := { program := "ytkfnjbfnkpameaa", sum := "613408898915dc48e0965ed74be2c25792e9dbc0d51017fe2460c40da8909b70", func := "interlace/interlacelaw26.MergeDropsDropping", spec := "mergeDropsDropping", unfollowed := true, recurses := true, apart := false }
def MergeDropsDroppingSaid : Prop := mergeDropsDroppingRow.holds Try.pinned (OpenSpec.ofChange mergeDropsDroppingSpec)

/-- ITS FALSE NEIGHBOUR: 'it returns false'. Refute it at one input. -/
def mergeDropsDroppingWrong : ChangeSpec := { name := "mergeDropsDropping", fn := fun _ => fun
  | [d1, d2, d3] => { results := [.lit (.bool false)], args := [d1, d2, d3] }
  | _ => none }
def MergeDropsDroppingWrongFalsely : Prop := mergeDropsDroppingRow.holds Try.pinned (OpenSpec.ofChange mergeDropsDroppingWrong)

/- THE SECOND FORM. 'bulk': how many values and letters a reading holds, each counted each time it is reached (what is shared counts as often as it is met; a slice's spare places count too). A statement '..UptoSaid' is the law's where the arguments, and the package variables that the reading takes, are together of bulk at most 1048576: NARROWER than '..Said'. Prove '..Said' where nothing that the law and all that it calls make is longer than what came in: it says more and counts as full. Else prove '..UptoSaid'. A law counts once. -/
mutual
def uptoBulk {H : Type} : DataW H → Nat
  | .lit (.string bytes) => bytes.length + 1
  | .lit _ => 1
  | .nil => 1
  | .ptr d => uptoBulk d + 1
  | .slice elems spare => uptoBulkAll elems + uptoBulkAll spare + 1
  | .agg parts => uptoBulkAll parts + 1
  | .iface _ d => uptoBulk d + 1
  | .map entries => uptoBulkEntries entries + 1
  | .held _ => 1
def uptoBulkAll {H : Type} : List (DataW H) → Nat
  | [] => 0
  | d :: r => uptoBulk d + uptoBulkAll r
def uptoBulkEntries {H : Type} : List (Lit × DataW H) → Nat
  | [] => 0
  | x :: r => uptoBulkEntry x + uptoBulkEntries r
def uptoBulkEntry {H : Type} : Lit × DataW H → Nat
  | (.string bytes, d) => bytes.length + uptoBulk d + 1
  | (_, d) => uptoBulk d + 1
 end
def uptoSmall : (H : Type) → List (DataW H) → Bool := fun _ ds => decide (uptoBulkAll ds ≤ 1048576)
def OpenSpec.upto (s : _root_.Go.ChangeSpec) : _root_.Go.OpenSpec := { _root_.Go.OpenSpec.ofChange s with cond := some uptoSmall }

/-- 'interlacelaw26.MergeStepsAsSpecified', WHERE WHAT IT READS IS OF BULK AT MOST 1048576: true; the input reads as it did. -/
def mergeStepsAsSpecifiedUptoRow : OpenClaim := { program := "ytkfnjbfnkpameaa", sum := "613408898915dc48e0965ed74be2c25792e9dbc0d51017fe2460c40da8909b70", func := "interlace/interlacelaw26.MergeStepsAsSpecified", spec := "mergeStepsAsSpecified", unfollowed := true, recurses := true, apart := false, narrowed := true }
def MergeStepsAsSpecifiedUptoSaid : Prop := mergeStepsAsSpecifiedUptoRow.holds Try.pinned (OpenSpec.upto mergeStepsAsSpecifiedSpec)

/-- 'interlacelaw26.MergeChecksAsSpecified', WHERE WHAT IT READS IS OF BULK AT MOST 1048576: true; the input reads as it did. -/
def mergeChecksAsSpecifiedUptoRow : OpenClaim := { program := "ytkfnjbfnkpameaa", sum := "613408898915dc48e0965ed74be2c25792e9dbc0d51017fe2460c40da8909b70", func := "interlace/interlacelaw26.MergeChecksAsSpecified", spec := "mergeChecksAsSpecified", unfollowed := true, recurses := true, apart := false, narrowed := true }
def MergeChecksAsSpecifiedUptoSaid : Prop := mergeChecksAsSpecifiedUptoRow.holds Try.pinned (OpenSpec.upto mergeChecksAsSpecifiedSpec)

/-- 'interlacelaw26.MergeIsStuck', WHERE WHAT IT READS IS OF BULK AT MOST 1048576: true; the input reads as it did. -/
def mergeIsStuckUptoRow : OpenClaim := { program := "ytkfnjbfnkpameaa", sum := "613408898915dc48e0965ed74be2c25792e9dbc0d51017fe2460c40da8909b70", func := "interlace/interlacelaw26.MergeIsStuck", spec := "mergeIsStuck", unfollowed := true, recurses := true, apart := false, narrowed := true }
def MergeIsStuckUptoSaid : Prop := mergeIsStuckUptoRow.holds Try.pinned (OpenSpec.upto mergeIsStuckSpec)

/-- 'interlacelaw26.MergeShortens', WHERE WHAT IT READS IS OF BULK AT MOST 1048576: true; the input reads as it did. -/
def mergeShortensUptoRow : OpenClaim := { program := "ytkfnjbfnkpameaa", sum := "613408898915dc48e0965ed74be2c25792e9dbc0d51017fe2460c40da8909b70", func := "interlace/interlacelaw26.MergeShortens", spec := "mergeShortens", unfollowed := true, recurses := true, apart := false, narrowed := true }
def MergeShortensUptoSaid : Prop := mergeShortensUptoRow.holds Try.pinned (OpenSpec.upto mergeShortensSpec)

/-- 'interlacelaw26.MergeDropsDropping', WHERE WHAT IT READS IS OF BULK AT MOST 1048576: true; the input reads as it did. -/
def mergeDropsDroppingUptoRow : OpenClaim := { program := "ytkfnjbfnkpameaa", sum := "613408898915dc48e0965ed74be2c25792e9dbc0d51017fe2460c40da8909b70", func := "interlace/interlacelaw26.MergeDropsDropping", spec := "mergeDropsDropping", unfollowed := true, recurses := true, apart := false, narrowed := true }
def MergeDropsDroppingUptoSaid : Prop := mergeDropsDroppingUptoRow.holds Try.pinned (OpenSpec.upto mergeDropsDroppingSpec)

end Rows
end Go.Proofs.Ytkfnjbfnkpameaa
