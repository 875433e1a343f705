/-
  No cell of these rows narrows 'for every input' (looked for: loops, veiled, ifaces, maps, wideKeys, modest, calm, conditions, laid).
  DERIVED. THE GIVEN ROWS OF THIS SEAT. 6 by the template 'for every input the law returns true; each argument reads behind the call as it read before'; 0 by the template 'total and deterministic' (their statements: YtfalnphlgfoflaaTotals.lean).
  GIVEN WITH THE SEED: the statements are not yours to turn. If you find one false, say at which input.
  Laid BY PROGRAM, IN A SANDBOX (cutbox-rows.mjs): the forced cells as the released guide's own fill.sh prints them over the translation 87397900eae98cdd… (all of the seat's roots in one cut). By AI agents, Wed Nov 11 2026. No macro, syntax, notation, axiom, sorry.
-/
import Derived.Test.YtfalnphlgfoflaaChecked
import GoSem.Claim
import GoSem.ClaimJoined
import GoSem.ClaimMapViews
import Derived.JoinedTies
import Derived.KernelRfl
namespace Go.Proofs.Ytfalnphlgfoflaa
/- THE CELL 'sum', in the pinned program and in every row, IS THE sha256 OF THE DUMP (.gsa) THAT YtfalnphlgfoflaaProg.lean LOADS. Nothing in Lean hashes anything: it is a label: what it is worth is what the hold of that sum in a sandbox is worth. -/
noncomputable def Try.pinned : Pinned := { name := "ytfalnphlgfoflaa", sum := "87397900eae98cddfd68666222714a74b8bd084852b0cce4ecce5aad8ea35da5", checked := Try.checked }
namespace Rows
def none {H : Type} : Left H := { results := [], args := [] }

/-- 'interlacelaw22.FlowChecksAsSpecified': WHATEVER THE INPUT: true; the input reads as it did. -/
def flowChecksAsSpecifiedSpec : ChangeSpec := { name := "flowChecksAsSpecified", fn := fun _ => fun
  | [d1, d2, d3, d4, d5, d6, d7, d8, d9] => { results := [.lit (.bool true)], args := [d1, d2, d3, d4, d5, d6, d7, d8, d9] }
  | _ => none }
def flowChecksAsSpecifiedRow : OpenClaim := { program := "ytfalnphlgfoflaa", sum := "87397900eae98cddfd68666222714a74b8bd084852b0cce4ecce5aad8ea35da5", func := "interlace/interlacelaw22.FlowChecksAsSpecified", spec := "flowChecksAsSpecified", unfollowed := true, recurses := true, apart := false }
def FlowChecksAsSpecifiedSaid : Prop := flowChecksAsSpecifiedRow.holds Try.pinned (OpenSpec.ofChange flowChecksAsSpecifiedSpec)

/-- ITS FALSE NEIGHBOUR: 'it returns false'. Refute it at one input. -/
def flowChecksAsSpecifiedWrong : ChangeSpec := { name := "flowChecksAsSpecified", fn := fun _ => fun
  | [d1, d2, d3, d4, d5, d6, d7, d8, d9] => { results := [.lit (.bool false)], args := [d1, d2, d3, d4, d5, d6, d7, d8, d9] }
  | _ => none }
def FlowChecksAsSpecifiedWrongFalsely : Prop := flowChecksAsSpecifiedRow.holds Try.pinned (OpenSpec.ofChange flowChecksAsSpecifiedWrong)

/-- 'interlacelaw22.FlowMaxIsGreatest': WHATEVER THE INPUT: true; the input reads as it did. -/
def flowMaxIsGreatestSpec : ChangeSpec := { name := "flowMaxIsGreatest", fn := fun _ => fun
  | [d1, d2, d3, d4, d5, d6] => { results := [.lit (.bool true)], args := [d1, d2, d3, d4, d5, d6] }
  | _ => none }
def flowMaxIsGreatestRow : OpenClaim := { program := "ytfalnphlgfoflaa", sum := "87397900eae98cddfd68666222714a74b8bd084852b0cce4ecce5aad8ea35da5", func := "interlace/interlacelaw22.FlowMaxIsGreatest", spec := "flowMaxIsGreatest", unfollowed := true, recurses := true, apart := false }
def FlowMaxIsGreatestSaid : Prop := flowMaxIsGreatestRow.holds Try.pinned (OpenSpec.ofChange flowMaxIsGreatestSpec)

/-- ITS FALSE NEIGHBOUR: 'it returns false'. Refute it at one input. -/
def flowMaxIsGreatestWrong : ChangeSpec := { name := "flowMaxIsGreatest", fn := fun _ => fun
  | [d1, d2, d3, d4, d5, d6] => { results := [.lit (.bool false)], args := [d1, d2, d3, d4, d5, d6] }
  | _ => none }
def FlowMaxIsGreatestWrongFalsely : Prop := flowMaxIsGreatestRow.holds Try.pinned (OpenSpec.ofChange flowMaxIsGreatestWrong)

/-- 'interlacelaw22.FlowSplitsIntoStrands': WHATEVER THE INPUT: true; the input reads as it did. -/
def flowSplitsIntoStrandsSpec : ChangeSpec := { name := "flowSplitsIntoStrands", fn := fun _ => fun
  | [d1, d2, d3, d4] => { results := [.lit (.bool true)], args := [d1, d2, d3, d4] }
  | _ => none }
def flowSplitsIntoStrandsRow : OpenClaim := { program := "ytfalnphlgfoflaa", sum := "87397900eae98cddfd68666222714a74b8bd084852b0cce4ecce5aad8ea35da5", func := "interlace/interlacelaw22.FlowSplitsIntoStrands", spec := "flowSplitsIntoStrands", unfollowed := true, recurses := true, apart := false }
def FlowSplitsIntoStrandsSaid : Prop := flowSplitsIntoStrandsRow.holds Try.pinned (OpenSpec.ofChange flowSplitsIntoStrandsSpec)

/-- ITS FALSE NEIGHBOUR: 'it returns false'. Refute it at one input. -/
def flowSplitsIntoStrandsWrong : ChangeSpec := { name := "flowSplitsIntoStrands", fn := fun _ => fun
  | [d1, d2, d3, d4] => { results := [.lit (.bool false)], args := [d1, d2, d3, d4] }
  | _ => none }
def FlowSplitsIntoStrandsWrongFalsely : Prop := flowSplitsIntoStrandsRow.holds Try.pinned (OpenSpec.ofChange flowSplitsIntoStrandsWrong)

/-- 'interlacelaw22.FlowIsCheap': WHATEVER THE INPUT: true; the input reads as it did. -/
def flowIsCheapSpec : ChangeSpec := { name := "flowIsCheap", fn := fun _ => fun
  | [d1, d2, d3, d4, d5, d6, d7] => { results := [.lit (.bool true)], args := [d1, d2, d3, d4, d5, d6, d7] }
  | _ => none }
def flowIsCheapRow : OpenClaim := { program := "ytfalnphlgfoflaa", sum := "87397900eae98cddfd68666222714a74b8bd084852b0cce4ecce5aad8ea35da5", func := "interlace/interlacelaw22.FlowIsCheap", spec := "flowIsCheap", unfollowed := true, recurses := true, apart := false }
def FlowIsCheapSaid : Prop := flowIsCheapRow.holds Try.pinned (OpenSpec.ofChange flowIsCheapSpec)

/-- ITS FALSE NEIGHBOUR: 'it returns false'. Refute it at one input. -/
def flowIsCheapWrong : ChangeSpec := { name := "flowIsCheap", fn := fun _ => fun
  | [d1, d2, d3, d4, d5, d6, d7] => { results := [.lit (.bool false)], args := [d1, d2, d3, d4, d5, d6, d7] }
  | _ => none }
def FlowIsCheapWrongFalsely : Prop := flowIsCheapRow.holds Try.pinned (OpenSpec.ofChange flowIsCheapWrong)

/-- 'interlacelaw22.FlowCertifiesSoundly': WHATEVER THE INPUT: true; the input reads as it did. -/
def flowCertifiesSoundlySpec : ChangeSpec := { name := "flowCertifiesSoundly", fn := fun _ => fun
  | [d1, d2, d3, d4, d5, d6, d7, d8, d9] => { results := [.lit (.bool true)], args := [d1, d2, d3, d4, d5, d6, d7, d8, d9] }
  | _ => none }
def flowCertifiesSoundlyRow : OpenClaim := { program := "ytfalnphlgfoflaa", sum := "87397900eae98cddfd68666222714a74b8bd084852b0cce4ecce5aad8ea35da5", func := "interlace/interlacelaw22.FlowCertifiesSoundly", spec := "flowCertifiesSoundly", unfollowed := true, recurses := true, apart := false }
def FlowCertifiesSoundlySaid : Prop := flowCertifiesSoundlyRow.holds Try.pinned (OpenSpec.ofChange flowCertifiesSoundlySpec)

/-- ITS FALSE NEIGHBOUR: 'it returns false'. Refute it at one input. -/
def flowCertifiesSoundlyWrong : ChangeSpec := { name := "flowCertifiesSoundly", fn := fun _ => fun
  | [d1, d2, d3, d4, d5, d6, d7, d8, d9] => { results := [.lit (.bool false)], args := [d1, d2, d3, d4, d5, d6, d7, d8, d9] }
  | _ => none }
def FlowCertifiesSoundlyWrongFalsely : Prop := flowCertifiesSoundlyRow.holds Try.pinned (OpenSpec.ofChange flowCertifiesSoundlyWrong)

/-- 'interlacelaw22.FlowGrowsWithCapacity': WHATEVER THE INPUT: true; the input reads as it did. -/
def flowGrowsWithCapacitySpec : ChangeSpec := { name := "flowGrowsWithCapacity", fn := fun _ => fun
  | [d1, d2, d3, d4, d5] => { results := [.lit (.bool true)], args := [d1, d2, d3, d4, d5] }
  | _ => none }
def flowGrowsWithCapacityRow : OpenClaim := { program := "ytfalnphlgfoflaa", sum := "87397900eae98cddfd68666222714a74b8bd084852b0cce4ecce5aad8ea35da5", func := "interlace/interlacelaw22.FlowGrowsWithCapacity", spec := "flowGrowsWithCapacity", unfollowed := true, recurses := true, apart := false }
def FlowGrowsWithCapacitySaid : Prop := flowGrowsWithCapacityRow.holds Try.pinned (OpenSpec.ofChange flowGrowsWithCapacitySpec)

/-- ITS FALSE NEIGHBOUR: 'it returns false'. Refute it at one input. -/
def flowGrowsWithCapacityWrong : ChangeSpec := { name := "flowGrowsWithCapacity", fn := fun _ => fun
  | [d1, d2, d3, d4, d5] => { results := [.lit (.bool false)], args := [d1, d2, d3, d4, d5] }
  | _ => none }
def FlowGrowsWithCapacityWrongFalsely : Prop := flowGrowsWithCapacityRow.holds Try.pinned (OpenSpec.ofChange flowGrowsWithCapacityWrong)

/- THE SECOND FORM. 'bulk': how many values and letters a reading holds, each counted each time it is reached (what is shared counts as often as it is met; a slice's spare places count too). A statement '..UptoSaid' is the law's where the arguments, and the package variables that the reading takes, are together of bulk at most 1048576: NARROWER than '..Said'. Prove '..Said' where nothing that the law and all that it calls make is longer than what came in: it says more and counts as full. Else prove '..UptoSaid'. A law counts once. -/
mutual
def uptoBulk {H : Type} : DataW H → Nat
  | .lit (.string bytes) => bytes.length + 1
  | .lit _ => 1
  | .nil => 1
  | .ptr d => uptoBulk d + 1
  | .slice elems spare => uptoBulkAll elems + uptoBulkAll spare + 1
  | .agg parts => uptoBulkAll parts + 1
  | .iface _ d => uptoBulk d + 1
  | .map entries => uptoBulkEntries entries + 1
  | .held _ => 1
def uptoBulkAll {H : Type} : List (DataW H) → Nat
  | [] => 0
  | d :: r => uptoBulk d + uptoBulkAll r
def uptoBulkEntries {H : Type} : List (Lit × DataW H) → Nat
  | [] => 0
  | x :: r => uptoBulkEntry x + uptoBulkEntries r
def uptoBulkEntry {H : Type} : Lit × DataW H → Nat
  | (.string bytes, d) => bytes.length + uptoBulk d + 1
  | (_, d) => uptoBulk d + 1
 end
def uptoSmall : (H : Type) → List (DataW H) → Bool := fun _ ds => decide (uptoBulkAll ds ≤ 1048576)
def OpenSpec.upto (s : _root_.Go.ChangeSpec) : _root_.Go.OpenSpec := { _root_.Go.OpenSpec.ofChange s with cond := some uptoSmall }

/-- 'interlacelaw22.FlowChecksAsSpecified', WHERE WHAT IT READS IS OF BULK AT MOST 1048576: true; the input reads as it did. -/
def flowChecksAsSpecifiedUptoRow : OpenClaim := { program := "ytfalnphlgfoflaa", sum := "87397900eae98cddfd68666222714a74b8bd084852b0cce4ecce5aad8ea35da5", func := "interlace/interlacelaw22.FlowChecksAsSpecified", spec := "flowChecksAsSpecified", unfollowed := true, recurses := true, apart := false, narrowed := true }
def FlowChecksAsSpecifiedUptoSaid : Prop := flowChecksAsSpecifiedUptoRow.holds Try.pinned (OpenSpec.upto flowChecksAsSpecifiedSpec)

/-- 'interlacelaw22.FlowMaxIsGreatest', WHERE WHAT IT READS IS OF BULK AT MOST 1048576: true; the input reads as it did. -/
def flowMaxIsGreatestUptoRow : OpenClaim := { program := "ytfalnphlgfoflaa", sum := "87397900eae98cddfd68666222714a74b8bd084852b0cce4ecce5aad8ea35da5", func := "interlace/interlacelaw22.FlowMaxIsGreatest", spec := "flowMaxIsGreatest", unfollowed := true, recurses := true, apart := false, narrowed := true }
def FlowMaxIsGreatestUptoSaid : Prop := flowMaxIsGreatestUptoRow.holds Try.pinned (OpenSpec.upto flowMaxIsGreatestSpec)

/-- 'interlacelaw22.FlowSplitsIntoStrands', WHERE WHAT IT READS IS OF BULK AT MOST 1048576: true; the input reads as it did. -/
def flowSplitsIntoStrandsUptoRow : OpenClaim := { program := "ytfalnphlgfoflaa", sum := "87397900eae98cddfd68666222714a74b8bd084852b0cce4ecce5aad8ea35da5", func := "interlace/interlacelaw22.FlowSplitsIntoStrands", spec := "flowSplitsIntoStrands", unfollowed := true, recurses := true, apart := false, narrowed := true }
def FlowSplitsIntoStrandsUptoSaid : Prop := flowSplitsIntoStrandsUptoRow.holds Try.pinned (OpenSpec.upto flowSplitsIntoStrandsSpec)

/-- 'interlacelaw22.FlowIsCheap', WHERE WHAT IT READS IS OF BULK AT MOST 1048576: true; the input reads as it did. -/
def flowIsCheapUptoRow : OpenClaim := { program := "ytfalnphlgfoflaa", sum := "87397900eae98cddfd68666222714a74b8bd084852b0cce4ecce5aad8ea35da5", func := "interlace/interlacelaw22.FlowIsCheap", spec := "flowIsCheap", unfollowed := true, recurses := true, apart := false, narrowed := true }
def FlowIsCheapUptoSaid : Prop := flowIsCheapUptoRow.holds Try.pinned (OpenSpec.upto flowIsCheapSpec)

/-- 'interlacelaw22.FlowCertifiesSoundly', WHERE WHAT IT READS IS OF BULK AT MOST 1048576: true; the input reads as it did. -/
def flowCertifiesSoundlyUptoRow : OpenClaim := { program := "ytfalnphlgfoflaa", sum := "87397900eae98cddfd68666222714a74b8bd084852b0cce4ecce5aad8ea35da5", func := "interlace/interlacelaw22.FlowCertifiesSoundly", spec := "flowCertifiesSoundly", unfollowed := true, recurses := true, apart := false, narrowed := true }
def FlowCertifiesSoundlyUptoSaid : Prop := flowCertifiesSoundlyUptoRow.holds Try.pinned (OpenSpec.upto flowCertifiesSoundlySpec)

/-- 'interlacelaw22.FlowGrowsWithCapacity', WHERE WHAT IT READS IS OF BULK AT MOST 1048576: true; the input reads as it did. -/
def flowGrowsWithCapacityUptoRow : OpenClaim := { program := "ytfalnphlgfoflaa", sum := "87397900eae98cddfd68666222714a74b8bd084852b0cce4ecce5aad8ea35da5", func := "interlace/interlacelaw22.FlowGrowsWithCapacity", spec := "flowGrowsWithCapacity", unfollowed := true, recurses := true, apart := false, narrowed := true }
def FlowGrowsWithCapacityUptoSaid : Prop := flowGrowsWithCapacityUptoRow.holds Try.pinned (OpenSpec.upto flowGrowsWithCapacitySpec)

end Rows
end Go.Proofs.Ytfalnphlgfoflaa
