/- The environment of the plain machine on the wire seat. -/
import Derived.Test.YtciamgdigpgneaaProg
import Derived.Test.YtciamgdigpgneaaCm32
import Derived.KernelRfl
namespace Go.Proofs.Ytciamgdigpgneaa
open Go Go.RowKit
noncomputable def LL : List Nat := [5, 14]
def GG : List Nat := []
noncomputable def EE (ax : Axs) : Env := envAx Try.prog LL ax
theorem envs_ok (ax : Axs) : EnvOk Try.prog (EE ax) := env_ok _ _ _
theorem funcs_ok : funcsOk Try.prog GG LL = true := by kernel_rfl
theorem mixed : Try.prog.follows .mixedOrders = true := by kernel_rfl
theorem fn5 (ax : Axs) : (EE ax).fn.at 5 = some Try.f5 := by kernel_rfl
theorem fn14 (ax : Axs) : (EE ax).fn.at 14 = some Try.f14 := by kernel_rfl
theorem ti4 (ax : Axs) : (EE ax).ti.at 4 = some ⟨.bool, 1, 1, [.bool false]⟩ := by kernel_rfl
theorem ti3 (ax : Axs) : (EE ax).ti.at 3 = some ⟨.int .i64, 1, 8, [.int .i64 0]⟩ := by kernel_rfl
theorem ti5 (ax : Axs) : (EE ax).ti.at 5 = some ⟨.int .u8, 1, 1, [.int .u8 0]⟩ := by kernel_rfl
theorem ti58 (ax : Axs) : (EE ax).ti.at 58 = some ⟨.int .u64, 1, 8, [.int .u64 0]⟩ := by kernel_rfl
theorem ti59 (ax : Axs) : (EE ax).ti.at 59 = some ⟨.int .u64, 1, 8, [.int .u64 0]⟩ := by kernel_rfl
theorem ti9 (ax : Axs) : (EE ax).ti.at 9 = some ⟨.string, 1, 16, [.string ⟨#[]⟩]⟩ := by kernel_rfl
theorem ti28 (ax : Axs) : (EE ax).ti.at 28 = some ⟨.slice 5, 1, 24, [.slice none 0 0]⟩ := by kernel_rfl
end Go.Proofs.Ytciamgdigpgneaa
