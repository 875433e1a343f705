/- '==' and '!=' of bools on trees. -/
import Derived.Test.YtfalnphlgfoflaaSh
namespace Go.Proofs.Ytfalnphlgfoflaa
open Go Go.RowKit
theorem tB_bool {P : Program} {Γ : Env} {S : TS} {t : TypeId} {op : BinOp} {x y : Operand} {m n : Bool} : tBin P Γ S t op x y (.bool m) (.bool n) = (Γ.ti.at t).bind fun i => match i.desc, op with | .bool, .eql => some (.bool (m == n)) | .bool, .neq => some (.bool (!(m == n))) | _, _ => none := by
  unfold tBin
  cases Γ.ti.at t <;> rfl
theorem bq_tt : (true == true) = true := Eq.trans rfl rfl
theorem bq_tf : (true == false) = false := Eq.trans rfl rfl
theorem bq_ft : (false == true) = false := Eq.trans rfl rfl
theorem bq_ff : (false == false) = true := Eq.trans rfl rfl
end Go.Proofs.Ytfalnphlgfoflaa
