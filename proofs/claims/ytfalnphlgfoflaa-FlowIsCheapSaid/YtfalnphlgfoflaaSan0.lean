/- The statement's examples by the kernel. -/
import Derived.Test.YtfalnphlgfoflaaFwEnv
namespace Go.Proofs.Ytfalnphlgfoflaa
open Go Go.RowKit
theorem sane_calls (w : World) : Calls Try.prog 10 #[] w fun e w' => e = .returned (.bool true) ∧ Below w.heap.size w w' := calls_true (L := LL) (fuel := 1000000000) mixed funcs_ok (by kernel_rfl) w
end Go.Proofs.Ytfalnphlgfoflaa
