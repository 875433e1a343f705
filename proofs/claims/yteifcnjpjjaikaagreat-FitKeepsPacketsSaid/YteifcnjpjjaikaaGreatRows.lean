/-
  No cell of these rows narrows 'for every input' (looked for: loops, veiled, ifaces, maps, wideKeys, modest, calm, conditions, laid).
  DERIVED. THE GIVEN ROWS OF THIS SEAT. 4 by the template 'for every input the law returns true; each argument reads behind the call as it read before'; 0 by the template 'total and deterministic' (their statements: YteifcnjpjjaikaaGreatTotals.lean).
  GIVEN WITH THE SEED: the statements are not yours to turn. If you find one false, say at which input.
  Laid BY PROGRAM, IN A SANDBOX (cutbox-rows.mjs): the forced cells as the released guide's own fill.sh prints them over the translation 94c76a2da1a8b3f4… (all of the seat's roots in one cut). By AI agents, Wed Nov 11 2026. No macro, syntax, notation, axiom, sorry.
-/
import Derived.Test.YteifcnjpjjaikaaGreatChecked
import GoSem.Claim
import GoSem.ClaimJoined
import GoSem.ClaimMapViews
import Derived.JoinedTies
import Derived.KernelRfl
namespace Go.Proofs.YteifcnjpjjaikaaGreat
/- THE CELL 'sum', in the pinned program and in every row, IS THE sha256 OF THE DUMP (.gsa) THAT YteifcnjpjjaikaaGreatProg.lean LOADS. Nothing in Lean hashes anything: it is a label: what it is worth is what the hold of that sum in a sandbox is worth. -/
noncomputable def Tryz.pinned : Pinned := { name := "yteifcnjpjjaikaagreat", sum := "94c76a2da1a8b3f47a98bb23615273942c040d914bb15c3653d4d3e6bc97b7ce", checked := Tryz.checked }
namespace Rows
def none {H : Type} : Left H := { results := [], args := [] }

/-- 'interlacelaw29.FitCountsAsSpecified': WHATEVER THE INPUT: true; the input reads as it did. -/
def fitCountsAsSpecifiedSpec : ChangeSpec := { name := "fitCountsAsSpecified", fn := fun _ => fun
  | [d1, d2, d3] => { results := [.lit (.bool true)], args := [d1, d2, d3] }
  | _ => none }
def fitCountsAsSpecifiedRow : OpenClaim := { program := "yteifcnjpjjaikaagreat", sum := "94c76a2da1a8b3f47a98bb23615273942c040d914bb15c3653d4d3e6bc97b7ce", func := "interlace/interlacelaw29.FitCountsAsSpecified", spec := "fitCountsAsSpecified", unfollowed := true, recurses := true, plainKeys := false, apart := false }
def FitCountsAsSpecifiedSaid : Prop := fitCountsAsSpecifiedRow.holds Tryz.pinned (OpenSpec.ofChange fitCountsAsSpecifiedSpec)

/-- ITS FALSE NEIGHBOUR: 'it returns false'. Refute it at one input. -/
def fitCountsAsSpecifiedWrong : ChangeSpec := { name := "fitCountsAsSpecified", fn := fun _ => fun
  | [d1, d2, d3] => { results := [.lit (.bool false)], args := [d1, d2, d3] }
  | _ => none }
def FitCountsAsSpecifiedWrongFalsely : Prop := fitCountsAsSpecifiedRow.holds Tryz.pinned (OpenSpec.ofChange fitCountsAsSpecifiedWrong)

/-- 'interlacelaw29.FitMovesAsSpecified': WHATEVER THE INPUT: true; the input reads as it did. -/
def fitMovesAsSpecifiedSpec : ChangeSpec := { name := "fitMovesAsSpecified", fn := fun _ => fun
  | [d1, d2, d3, d4] => { results := [.lit (.bool true)], args := [d1, d2, d3, d4] }
  | _ => none }
def fitMovesAsSpecifiedRow : OpenClaim := { program := "yteifcnjpjjaikaagreat", sum := "94c76a2da1a8b3f47a98bb23615273942c040d914bb15c3653d4d3e6bc97b7ce", func := "interlace/interlacelaw29.FitMovesAsSpecified", spec := "fitMovesAsSpecified", unfollowed := true, recurses := true, plainKeys := false, apart := false }
def FitMovesAsSpecifiedSaid : Prop := fitMovesAsSpecifiedRow.holds Tryz.pinned (OpenSpec.ofChange fitMovesAsSpecifiedSpec)

/-- ITS FALSE NEIGHBOUR: 'it returns false'. Refute it at one input. -/
def fitMovesAsSpecifiedWrong : ChangeSpec := { name := "fitMovesAsSpecified", fn := fun _ => fun
  | [d1, d2, d3, d4] => { results := [.lit (.bool false)], args := [d1, d2, d3, d4] }
  | _ => none }
def FitMovesAsSpecifiedWrongFalsely : Prop := fitMovesAsSpecifiedRow.holds Tryz.pinned (OpenSpec.ofChange fitMovesAsSpecifiedWrong)

/-- 'interlacelaw29.FitKeepsPackets': WHATEVER THE INPUT: true; the input reads as it did. -/
def fitKeepsPacketsSpec : ChangeSpec := { name := "fitKeepsPackets", fn := fun _ => fun
  | [d1, d2, d3, d4, d5] => { results := [.lit (.bool true)], args := [d1, d2, d3, d4, d5] }
  | _ => none }
def fitKeepsPacketsRow : OpenClaim := { program := "yteifcnjpjjaikaagreat", sum := "94c76a2da1a8b3f47a98bb23615273942c040d914bb15c3653d4d3e6bc97b7ce", func := "interlace/interlacelaw29.FitKeepsPackets", spec := "fitKeepsPackets", unfollowed := true, recurses := true, plainKeys := false, apart := false }
def FitKeepsPacketsSaid : Prop := fitKeepsPacketsRow.holds Tryz.pinned (OpenSpec.ofChange fitKeepsPacketsSpec)

/-- ITS FALSE NEIGHBOUR: 'it returns false'. Refute it at one input. -/
def fitKeepsPacketsWrong : ChangeSpec := { name := "fitKeepsPackets", fn := fun _ => fun
  | [d1, d2, d3, d4, d5] => { results := [.lit (.bool false)], args := [d1, d2, d3, d4, d5] }
  | _ => none }
def FitKeepsPacketsWrongFalsely : Prop := fitKeepsPacketsRow.holds Tryz.pinned (OpenSpec.ofChange fitKeepsPacketsWrong)

/-- 'interlacelaw29.FitFits': WHATEVER THE INPUT: true; the input reads as it did. -/
def fitFitsSpec : ChangeSpec := { name := "fitFits", fn := fun _ => fun
  | [d1, d2] => { results := [.lit (.bool true)], args := [d1, d2] }
  | _ => none }
def fitFitsRow : OpenClaim := { program := "yteifcnjpjjaikaagreat", sum := "94c76a2da1a8b3f47a98bb23615273942c040d914bb15c3653d4d3e6bc97b7ce", func := "interlace/interlacelaw29.FitFits", spec := "fitFits", unfollowed := true, recurses := true, plainKeys := false, apart := false }
def FitFitsSaid : Prop := fitFitsRow.holds Tryz.pinned (OpenSpec.ofChange fitFitsSpec)

/-- ITS FALSE NEIGHBOUR: 'it returns false'. Refute it at one input. -/
def fitFitsWrong : ChangeSpec := { name := "fitFits", fn := fun _ => fun
  | [d1, d2] => { results := [.lit (.bool false)], args := [d1, d2] }
  | _ => none }
def FitFitsWrongFalsely : Prop := fitFitsRow.holds Tryz.pinned (OpenSpec.ofChange fitFitsWrong)

/- THE SECOND FORM. 'bulk': how many values and letters a reading holds, each counted each time it is reached (what is shared counts as often as it is met; a slice's spare places count too). A statement '..UptoSaid' is the law's where the arguments, and the package variables that the reading takes, are together of bulk at most 1048576: NARROWER than '..Said'. Prove '..Said' where nothing that the law and all that it calls make is longer than what came in: it says more and counts as full. Else prove '..UptoSaid'. A law counts once. -/
mutual
def uptoBulk {H : Type} : DataW H → Nat
  | .lit (.string bytes) => bytes.length + 1
  | .lit _ => 1
  | .nil => 1
  | .ptr d => uptoBulk d + 1
  | .slice elems spare => uptoBulkAll elems + uptoBulkAll spare + 1
  | .agg parts => uptoBulkAll parts + 1
  | .iface _ d => uptoBulk d + 1
  | .map entries => uptoBulkEntries entries + 1
  | .held _ => 1
def uptoBulkAll {H : Type} : List (DataW H) → Nat
  | [] => 0
  | d :: r => uptoBulk d + uptoBulkAll r
def uptoBulkEntries {H : Type} : List (Lit × DataW H) → Nat
  | [] => 0
  | x :: r => uptoBulkEntry x + uptoBulkEntries r
def uptoBulkEntry {H : Type} : Lit × DataW H → Nat
  | (.string bytes, d) => bytes.length + uptoBulk d + 1
  | (_, d) => uptoBulk d + 1
 end
def uptoSmall : (H : Type) → List (DataW H) → Bool := fun _ ds => decide (uptoBulkAll ds ≤ 1048576)
def OpenSpec.upto (s : _root_.Go.ChangeSpec) : _root_.Go.OpenSpec := { _root_.Go.OpenSpec.ofChange s with cond := some uptoSmall }

/-- 'interlacelaw29.FitCountsAsSpecified', WHERE WHAT IT READS IS OF BULK AT MOST 1048576: true; the input reads as it did. -/
def fitCountsAsSpecifiedUptoRow : OpenClaim := { program := "yteifcnjpjjaikaagreat", sum := "94c76a2da1a8b3f47a98bb23615273942c040d914bb15c3653d4d3e6bc97b7ce", func := "interlace/interlacelaw29.FitCountsAsSpecified", spec := "fitCountsAsSpecified", unfollowed := true, recurses := true, plainKeys := false, apart := false, narrowed := true }
def FitCountsAsSpecifiedUptoSaid : Prop := fitCountsAsSpecifiedUptoRow.holds Tryz.pinned (OpenSpec.upto fitCountsAsSpecifiedSpec)

/-- 'interlacelaw29.FitMovesAsSpecified', WHERE WHAT IT READS IS OF BULK AT MOST 1048576: true; the input reads as it did. -/
def fitMovesAsSpecifiedUptoRow : OpenClaim := { program := "yteifcnjpjjaikaagreat", sum := "94c76a2da1a8b3f47a98bb23615273942c040d914bb15c3653d4d3e6bc97b7ce", func := "interlace/interlacelaw29.FitMovesAsSpecified", spec := "fitMovesAsSpecified", unfollowed := true, recurses := true, plainKeys := false, apart := false, narrowed := true }
def FitMovesAsSpecifiedUptoSaid : Prop := fitMovesAsSpecifiedUptoRow.holds Tryz.pinned (OpenSpec.upto fitMovesAsSpecifiedSpec)

/-- 'interlacelaw29.FitKeepsPackets', WHERE WHAT IT READS IS OF BULK AT MOST 1048576: true; the input reads as it did. -/
def fitKeepsPacketsUptoRow : OpenClaim := { program := "yteifcnjpjjaikaagreat", sum := "94c76a2da1a8b3f47a98bb23615273942c040d914bb15c3653d4d3e6bc97b7ce", func := "interlace/interlacelaw29.FitKeepsPackets", spec := "fitKeepsPackets", unfollowed := true, recurses := true, plainKeys := false, apart := false, narrowed := true }
def FitKeepsPacketsUptoSaid : Prop := fitKeepsPacketsUptoRow.holds Tryz.pinned (OpenSpec.upto fitKeepsPacketsSpec)

/-- 'interlacelaw29.FitFits', WHERE WHAT IT READS IS OF BULK AT MOST 1048576: true; the input reads as it did. -/
def fitFitsUptoRow : OpenClaim := { program := "yteifcnjpjjaikaagreat", sum := "94c76a2da1a8b3f47a98bb23615273942c040d914bb15c3653d4d3e6bc97b7ce", func := "interlace/interlacelaw29.FitFits", spec := "fitFits", unfollowed := true, recurses := true, plainKeys := false, apart := false, narrowed := true }
def FitFitsUptoSaid : Prop := fitFitsUptoRow.holds Tryz.pinned (OpenSpec.upto fitFitsSpec)

end Rows
end Go.Proofs.YteifcnjpjjaikaaGreat
