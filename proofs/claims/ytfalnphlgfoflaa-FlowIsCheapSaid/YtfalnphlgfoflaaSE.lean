/- Functions as plain functions, and that the code computes them. -/
import Derived.Test.YtfalnphlgfoflaaSB
namespace Go.Proofs.Ytfalnphlgfoflaa
open Go Go.RowKit
set_option linter.unusedSimpArgs false
set_option linter.unusedVariables false
set_option linter.unusedSectionVars false
set_option maxRecDepth 100000
def sflow_pushU_b_L0 (k : Nat) (by_ : List (Option ArcU)) (from_ : Int) : Nat → Int → Int → Option Int
 | 0, _, _ => none
 | m + 1, amount2, at_ => (if at_ ≠ from_ then (if (0 : Int) ≤ at_ ∧ at_ < (by_.length : Int) then (if (gx by_ at_).isSome = true then sflow_pushU_b_L0 k by_ from_ m (min amount2 (((gx by_ at_).getD default).room)) (((gx by_ at_).getD default).frm) else none) else none) else some amount2)
def sflow_pushU_b_L1 (k : Nat) (n0 : Nat) (by_ : List (Option ArcU)) (from_ : Int) (s_ : Int) : Nat → Int → (List Int) → Option (List Int)
 | 0, _, _ => none
 | m + 1, at_2, l => (if at_2 ≠ from_ then (if (0 : Int) ≤ at_2 ∧ at_2 < (by_.length : Int) then (if (gx by_ at_2).isSome = true then (if ((gx by_ at_2).getD default).back = true then (if (0 : Int) ≤ (((gx by_ at_2).getD default).link) ∧ (((gx by_ at_2).getD default).link) < (n0 : Int) then (if (((gx by_ at_2).getD default).link).toNat < l.length then sflow_pushU_b_L1 k n0 by_ from_ s_ m (((gx by_ at_2).getD default).frm) (l.set (((gx by_ at_2).getD default).link).toNat (IntKind.i64.wrap ((l.getD (((gx by_ at_2).getD default).link).toNat default) - s_))) else none) else none) else (if (0 : Int) ≤ (((gx by_ at_2).getD default).link) ∧ (((gx by_ at_2).getD default).link) < (n0 : Int) then (if (((gx by_ at_2).getD default).link).toNat < l.length then sflow_pushU_b_L1 k n0 by_ from_ s_ m (((gx by_ at_2).getD default).frm) (l.set (((gx by_ at_2).getD default).link).toNat (IntKind.i64.wrap ((l.getD (((gx by_ at_2).getD default).link).toNat default) + s_))) else none) else none)) else none) else none) else some l)
def sflow_pushU_b (k : Nat) (n0 : Nat) (by_ : List (Option ArcU)) (from_ : Int) (to_ : Int) (amount : Int) (l0 : List Int) : Option (Int × List Int) := ((sflow_pushU_b_L0 k by_ from_ k amount to_ : Option Int).bind fun s_ => ((sflow_pushU_b_L1 k n0 by_ from_ s_ k to_ l0 : Option (List Int)).bind fun s_2 => some (s_, s_2)))
end Go.Proofs.Ytfalnphlgfoflaa