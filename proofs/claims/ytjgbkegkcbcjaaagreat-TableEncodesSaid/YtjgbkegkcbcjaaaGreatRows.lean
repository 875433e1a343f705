/-
  No cell of these rows narrows 'for every input' (looked for: loops, veiled, ifaces, maps, wideKeys, modest, calm, conditions, laid).
  DERIVED. THE GIVEN ROWS OF THIS SEAT. 6 by the template 'for every input the law returns true; each argument reads behind the call as it read before'; 0 by the template 'total and deterministic' (their statements: YtjgbkegkcbcjaaaGreatTotals.lean).
  GIVEN WITH THE SEED: the statements are not yours to turn. If you find one false, say at which input.
  Laid BY PROGRAM, IN A SANDBOX (cutbox-rows.mjs): the forced cells as the released guide's own fill.sh prints them over the translation 30fa7b2bfe8a085e… (all of the seat's roots in one cut). By AI agents, Wed Nov 11 2026. No macro, syntax, notation, axiom, sorry.
-/
import Derived.Test.YtjgbkegkcbcjaaaGreatChecked
import GoSem.Claim
import GoSem.ClaimJoined
import GoSem.ClaimMapViews
import Derived.JoinedTies
import Derived.KernelRfl
namespace Go.Proofs.YtjgbkegkcbcjaaaGreat
/- THE CELL 'sum', in the pinned program and in every row, IS THE sha256 OF THE DUMP (.gsa) THAT YtjgbkegkcbcjaaaGreatProg.lean LOADS. Nothing in Lean hashes anything: it is a label: what it is worth is what the hold of that sum in a sandbox is worth. -/
noncomputable def Tryz.pinned : Pinned := { name := "ytjgbkegkcbcjaaagreat", sum := "30fa7b2bfe8a085ea26bea3eab30e4ed5844e463fcec16f1275491305e92a1bb", checked := Tryz.checked }
namespace Rows
def none {H : Type} : Left H := { results := [], args := [] }

/-- 'interlacelaw25.TableChecksAsSpecified': WHATEVER THE INPUT: true; the input reads as it did. -/
def tableChecksAsSpecifiedSpec : ChangeSpec := { name := "tableChecksAsSpecified", fn := fun _ => fun
  | [d1, d2, d3, d4] => { results := [.lit (.bool true)], args := [d1, d2, d3, d4] }
  | _ => none }
def tableChecksAsSpecifiedRow : OpenClaim := { program := "ytjgbkegkcbcjaaagreat", sum := "30fa7b2bfe8a085ea26bea3eab30e4ed5844e463fcec16f1275491305e92a1bb", func := "interlace/interlacelaw25.TableChecksAsSpecified", spec := "tableChecksAsSpecified", unfollowed := true, recurses := true, apart := false }
def TableChecksAsSpecifiedSaid : Prop := tableChecksAsSpecifiedRow.holds Tryz.pinned (OpenSpec.ofChange tableChecksAsSpecifiedSpec)

/-- ITS FALSE NEIGHBOUR: 'it returns false'. Refute it at one input. -/
def tableChecksAsSpecifiedWrong : ChangeSpec := { name := "tableChecksAsSpecified", fn := fun _ => fun
  | [d1, d2, d3, d4] => { results := [.lit (.bool false)], args := [d1, d2, d3, d4] }
  | _ => none }
def TableChecksAsSpecifiedWrongFalsely : Prop := tableChecksAsSpecifiedRow.holds Tryz.pinned (OpenSpec.ofChange tableChecksAsSpecifiedWrong)

/-- 'interlacelaw25.TableLooksUp': WHATEVER THE INPUT: true; the input reads as it did. -/
def tableLooksUpSpec : ChangeSpec := { name := "tableLooksUp", fn := fun _ => fun
  | [d1, d2, d3, d4] => { results := [.lit (.bool true)], args := [d1, d2, d3, d4] }
  | _ => none }
def tableLooksUpRow : OpenClaim := { program := "ytjgbkegkcbcjaaagreat", sum := "30fa7b2bfe8a085ea26bea3eab30e4ed5844e463fcec16f1275491305e92a1bb", func := "interlace/interlacelaw25.TableLooksUp", spec := "tableLooksUp", unfollowed := true, recurses := true, apart := false }
def TableLooksUpSaid : Prop := tableLooksUpRow.holds Tryz.pinned (OpenSpec.ofChange tableLooksUpSpec)

/-- ITS FALSE NEIGHBOUR: 'it returns false'. Refute it at one input. -/
def tableLooksUpWrong : ChangeSpec := { name := "tableLooksUp", fn := fun _ => fun
  | [d1, d2, d3, d4] => { results := [.lit (.bool false)], args := [d1, d2, d3, d4] }
  | _ => none }
def TableLooksUpWrongFalsely : Prop := tableLooksUpRow.holds Tryz.pinned (OpenSpec.ofChange tableLooksUpWrong)

/-- 'interlacelaw25.TableKnowsShadows': WHATEVER THE INPUT: true; the input reads as it did. -/
def tableKnowsShadowsSpec : ChangeSpec := { name := "tableKnowsShadows", fn := fun _ => fun
  | [d1, d2, d3, d4, d5] => { results := [.lit (.bool true)], args := [d1, d2, d3, d4, d5] }
  | _ => none }
def tableKnowsShadowsRow : OpenClaim := { program := "ytjgbkegkcbcjaaagreat", sum := "30fa7b2bfe8a085ea26bea3eab30e4ed5844e463fcec16f1275491305e92a1bb", func := "interlace/interlacelaw25.TableKnowsShadows", spec := "tableKnowsShadows", unfollowed := true, recurses := true, apart := false }
def TableKnowsShadowsSaid : Prop := tableKnowsShadowsRow.holds Tryz.pinned (OpenSpec.ofChange tableKnowsShadowsSpec)

/-- ITS FALSE NEIGHBOUR: 'it returns false'. Refute it at one input. -/
def tableKnowsShadowsWrong : ChangeSpec := { name := "tableKnowsShadows", fn := fun _ => fun
  | [d1, d2, d3, d4, d5] => { results := [.lit (.bool false)], args := [d1, d2, d3, d4, d5] }
  | _ => none }
def TableKnowsShadowsWrongFalsely : Prop := tableKnowsShadowsRow.holds Tryz.pinned (OpenSpec.ofChange tableKnowsShadowsWrong)

/-- 'interlacelaw25.TableEqualIsExact': WHATEVER THE INPUT: true; the input reads as it did. -/
def tableEqualIsExactSpec : ChangeSpec := { name := "tableEqualIsExact", fn := fun _ => fun
  | [d1, d2, d3, d4] => { results := [.lit (.bool true)], args := [d1, d2, d3, d4] }
  | _ => none }
def tableEqualIsExactRow : OpenClaim := { program := "ytjgbkegkcbcjaaagreat", sum := "30fa7b2bfe8a085ea26bea3eab30e4ed5844e463fcec16f1275491305e92a1bb", func := "interlace/interlacelaw25.TableEqualIsExact", spec := "tableEqualIsExact", unfollowed := true, recurses := true, apart := false }
def TableEqualIsExactSaid : Prop := tableEqualIsExactRow.holds Tryz.pinned (OpenSpec.ofChange tableEqualIsExactSpec)

/-- ITS FALSE NEIGHBOUR: 'it returns false'. Refute it at one input. -/
def tableEqualIsExactWrong : ChangeSpec := { name := "tableEqualIsExact", fn := fun _ => fun
  | [d1, d2, d3, d4] => { results := [.lit (.bool false)], args := [d1, d2, d3, d4] }
  | _ => none }
def TableEqualIsExactWrongFalsely : Prop := tableEqualIsExactRow.holds Tryz.pinned (OpenSpec.ofChange tableEqualIsExactWrong)

/-- 'interlacelaw25.TableExchangesRules': WHATEVER THE INPUT: true; the input reads as it did. -/
def tableExchangesRulesSpec : ChangeSpec := { name := "tableExchangesRules", fn := fun _ => fun
  | [d1, d2, d3] => { results := [.lit (.bool true)], args := [d1, d2, d3] }
  | _ => none }
def tableExchangesRulesRow : OpenClaim := { program := "ytjgbkegkcbcjaaagreat", sum := "30fa7b2bfe8a085ea26bea3eab30e4ed5844e463fcec16f1275491305e92a1bb", func := "interlace/interlacelaw25.TableExchangesRules", spec := "tableExchangesRules", unfollowed := true, recurses := true, apart := false }
def TableExchangesRulesSaid : Prop := tableExchangesRulesRow.holds Tryz.pinned (OpenSpec.ofChange tableExchangesRulesSpec)

/-- ITS FALSE NEIGHBOUR: 'it returns false'. Refute it at one input. -/
def tableExchangesRulesWrong : ChangeSpec := { name := "tableExchangesRules", fn := fun _ => fun
  | [d1, d2, d3] => { results := [.lit (.bool false)], args := [d1, d2, d3] }
  | _ => none }
def TableExchangesRulesWrongFalsely : Prop := tableExchangesRulesRow.holds Tryz.pinned (OpenSpec.ofChange tableExchangesRulesWrong)

/-- 'interlacelaw25.TableEncodes': WHATEVER THE INPUT: true; the input reads as it did. -/
def tableEncodesSpec : ChangeSpec := { name := "tableEncodes", fn := fun _ => fun
  | [d1, d2] => { results := [.lit (.bool true)], args := [d1, d2] }
  | _ => none }
def tableEncodesRow : OpenClaim := { program := "ytjgbkegkcbcjaaagreat", sum := "30fa7b2bfe8a085ea26bea3eab30e4ed5844e463fcec16f1275491305e92a1bb", func := "interlace/interlacelaw25.TableEncodes", spec := "tableEncodes", unfollowed := true, recurses := true, apart := false }
def TableEncodesSaid : Prop := tableEncodesRow.holds Tryz.pinned (OpenSpec.ofChange tableEncodesSpec)

/-- ITS FALSE NEIGHBOUR: 'it returns false'. Refute it at one input. -/
def tableEncodesWrong : ChangeSpec := { name := "tableEncodes", fn := fun _ => fun
  | [d1, d2] => { results := [.lit (.bool false)], args := [d1, d2] }
  | _ => none }
def TableEncodesWrongFalsely : Prop := tableEncodesRow.holds Tryz.pinned (OpenSpec.ofChange tableEncodesWrong)

/- THE SECOND FORM. 'bulk': how many values and letters a reading holds, each counted each time it is reached (what is shared counts as often as it is met; a slice's spare places count too). A statement '..UptoSaid' is the law's where the arguments, and the package variables that the reading takes, are together of bulk at most 1048576: NARROWER than '..Said'. Prove '..Said' where nothing that the law and all that it calls make is longer than what came in: it says more and counts as full. Else prove '..UptoSaid'. A law counts once. -/
mutual
def uptoBulk {H : Type} : DataW H → Nat
  | .lit (.string bytes) => bytes.length + 1
  | .lit _ => 1
  | .nil => 1
  | .ptr d => uptoBulk d + 1
  | .slice elems spare => uptoBulkAll elems + uptoBulkAll spare + 1
  | .agg parts => uptoBulkAll parts + 1
  | .iface _ d => uptoBulk d + 1
  | .map entries => uptoBulkEntries entries + 1
  | .held _ => 1
def uptoBulkAll {H : Type} : List (DataW H) → Nat
  | [] => 0
  | d :: r => uptoBulk d + uptoBulkAll r
def uptoBulkEntries {H : Type} : List (Lit × DataW H) → Nat
  | [] => 0
  | x :: r => uptoBulkEntry x + uptoBulkEntries r
def uptoBulkEntry {H : Type} : Lit × DataW H → Nat
  | (.string bytes, d) => bytes.length + uptoBulk d + 1
  | (_, d) => uptoBulk d + 1
 end
def uptoSmall : (H : Type) → List (DataW H) → Bool := fun _ ds => decide (uptoBulkAll ds ≤ 1048576)
def OpenSpec.upto (s : _root_.Go.ChangeSpec) : _root_.Go.OpenSpec := { _root_.Go.OpenSpec.ofChange s with cond := some uptoSmall }

/-- 'interlacelaw25.TableChecksAsSpecified', WHERE WHAT IT READS IS OF BULK AT MOST 1048576: true; the input reads as it did. -/
def tableChecksAsSpecifiedUptoRow : OpenClaim := { program := "ytjgbkegkcbcjaaagreat", sum := "30fa7b2bfe8a085ea26bea3eab30e4ed5844e463fcec16f1275491305e92a1bb", func := "interlace/interlacelaw25.TableChecksAsSpecified", spec := "tableChecksAsSpecified", unfollowed := true, recurses := true, apart := false, narrowed := true }
def TableChecksAsSpecifiedUptoSaid : Prop := tableChecksAsSpecifiedUptoRow.holds Tryz.pinned (OpenSpec.upto tableChecksAsSpecifiedSpec)

/-- 'interlacelaw25.TableLooksUp', WHERE WHAT IT READS IS OF BULK AT MOST 1048576: true; the input reads as it did. -/
def tableLooksUpUptoRow : OpenClaim := { program := "ytjgbkegkcbcjaaagreat", sum := "30fa7b2bfe8a085ea26bea3eab30e4ed5844e463fcec16f1275491305e92a1bb", func := "interlace/interlacelaw25.TableLooksUp", spec := "tableLooksUp", unfollowed := true, recurses := true, apart := false, narrowed := true }
def TableLooksUpUptoSaid : Prop := tableLooksUpUptoRow.holds Tryz.pinned (OpenSpec.upto tableLooksUpSpec)

/-- 'interlacelaw25.TableKnowsShadows', WHERE WHAT IT READS IS OF BULK AT MOST 1048576: true; the input reads as it did. -/
def tableKnowsShadowsUptoRow : OpenClaim := { program := "ytjgbkegkcbcjaaagreat", sum := "30fa7b2bfe8a085ea26bea3eab30e4ed5844e463fcec16f1275491305e92a1bb", func := "interlace/interlacelaw25.TableKnowsShadows", spec := "tableKnowsShadows", unfollowed := true, recurses := true, apart := false, narrowed := true }
def TableKnowsShadowsUptoSaid : Prop := tableKnowsShadowsUptoRow.holds Tryz.pinned (OpenSpec.upto tableKnowsShadowsSpec)

/-- 'interlacelaw25.TableEqualIsExact', WHERE WHAT IT READS IS OF BULK AT MOST 1048576: true; the input reads as it did. -/
def tableEqualIsExactUptoRow : OpenClaim := { program := "ytjgbkegkcbcjaaagreat", sum := "30fa7b2bfe8a085ea26bea3eab30e4ed5844e463fcec16f1275491305e92a1bb", func := "interlace/interlacelaw25.TableEqualIsExact", spec := "tableEqualIsExact", unfollowed := true, recurses := true, apart := false, narrowed := true }
def TableEqualIsExactUptoSaid : Prop := tableEqualIsExactUptoRow.holds Tryz.pinned (OpenSpec.upto tableEqualIsExactSpec)

/-- 'interlacelaw25.TableExchangesRules', WHERE WHAT IT READS IS OF BULK AT MOST 1048576: true; the input reads as it did. -/
def tableExchangesRulesUptoRow : OpenClaim := { program := "ytjgbkegkcbcjaaagreat", sum := "30fa7b2bfe8a085ea26bea3eab30e4ed5844e463fcec16f1275491305e92a1bb", func := "interlace/interlacelaw25.TableExchangesRules", spec := "tableExchangesRules", unfollowed := true, recurses := true, apart := false, narrowed := true }
def TableExchangesRulesUptoSaid : Prop := tableExchangesRulesUptoRow.holds Tryz.pinned (OpenSpec.upto tableExchangesRulesSpec)

/-- 'interlacelaw25.TableEncodes', WHERE WHAT IT READS IS OF BULK AT MOST 1048576: true; the input reads as it did. -/
def tableEncodesUptoRow : OpenClaim := { program := "ytjgbkegkcbcjaaagreat", sum := "30fa7b2bfe8a085ea26bea3eab30e4ed5844e463fcec16f1275491305e92a1bb", func := "interlace/interlacelaw25.TableEncodes", spec := "tableEncodes", unfollowed := true, recurses := true, apart := false, narrowed := true }
def TableEncodesUptoSaid : Prop := tableEncodesUptoRow.holds Tryz.pinned (OpenSpec.upto tableEncodesSpec)

end Rows
end Go.Proofs.YtjgbkegkcbcjaaaGreat
