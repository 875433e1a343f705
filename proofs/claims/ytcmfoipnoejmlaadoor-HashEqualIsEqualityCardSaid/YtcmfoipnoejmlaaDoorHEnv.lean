/- The environment of the plain machine for the layers 1 to 3: which functions it may enter, and the types' rows, each by the kernel. -/
import Derived.Test.YtcmfoipnoejmlaaDoorProg
import Derived.Test.YtcmfoipnoejmlaaDoorCm33
import Derived.KernelRfl
namespace Go.Proofs.YtcmfoipnoejmlaaDoor
open Go Go.RowKit
noncomputable def LL : List Nat := [3, 4, 5, 6, 7, 8, 9, 16, 17, 18, 19, 20, 21, 22, 23, 24, 25, 26, 27, 28, 29, 30, 48, 49, 50, 51, 52, 53, 54, 55, 56, 57, 58, 46, 59, 77, 78, 84]
def GG : List Nat := [0, 1]
noncomputable def EE (ax : Axs) : Env := envAx Tryd.prog LL ax
theorem envs_ok (ax : Axs) : EnvOk Tryd.prog (EE ax) := env_ok _ _ _
theorem funcs_ok : funcsOk Tryd.prog GG LL = true := by kernel_rfl
theorem mixed : Tryd.prog.follows .mixedOrders = true := by kernel_rfl
theorem fn3 (ax : Axs) : (EE ax).fn.at 3 = some Tryd.f3 := by kernel_rfl
theorem fn4 (ax : Axs) : (EE ax).fn.at 4 = some Tryd.f4 := by kernel_rfl
theorem fn5 (ax : Axs) : (EE ax).fn.at 5 = some Tryd.f5 := by kernel_rfl
theorem fn6 (ax : Axs) : (EE ax).fn.at 6 = some Tryd.f6 := by kernel_rfl
theorem fn7 (ax : Axs) : (EE ax).fn.at 7 = some Tryd.f7 := by kernel_rfl
theorem fn8 (ax : Axs) : (EE ax).fn.at 8 = some Tryd.f8 := by kernel_rfl
theorem fn9 (ax : Axs) : (EE ax).fn.at 9 = some Tryd.f9 := by kernel_rfl
theorem fn16 (ax : Axs) : (EE ax).fn.at 16 = some Tryd.f16 := by kernel_rfl
theorem fn17 (ax : Axs) : (EE ax).fn.at 17 = some Tryd.f17 := by kernel_rfl
theorem fn18 (ax : Axs) : (EE ax).fn.at 18 = some Tryd.f18 := by kernel_rfl
theorem fn19 (ax : Axs) : (EE ax).fn.at 19 = some Tryd.f19 := by kernel_rfl
theorem fn20 (ax : Axs) : (EE ax).fn.at 20 = some Tryd.f20 := by kernel_rfl
theorem fn21 (ax : Axs) : (EE ax).fn.at 21 = some Tryd.f21 := by kernel_rfl
theorem fn22 (ax : Axs) : (EE ax).fn.at 22 = some Tryd.f22 := by kernel_rfl
theorem fn23 (ax : Axs) : (EE ax).fn.at 23 = some Tryd.f23 := by kernel_rfl
theorem fn24 (ax : Axs) : (EE ax).fn.at 24 = some Tryd.f24 := by kernel_rfl
theorem fn25 (ax : Axs) : (EE ax).fn.at 25 = some Tryd.f25 := by kernel_rfl
theorem fn26 (ax : Axs) : (EE ax).fn.at 26 = some Tryd.f26 := by kernel_rfl
theorem fn27 (ax : Axs) : (EE ax).fn.at 27 = some Tryd.f27 := by kernel_rfl
theorem fn28 (ax : Axs) : (EE ax).fn.at 28 = some Tryd.f28 := by kernel_rfl
theorem fn29 (ax : Axs) : (EE ax).fn.at 29 = some Tryd.f29 := by kernel_rfl
theorem fn30 (ax : Axs) : (EE ax).fn.at 30 = some Tryd.f30 := by kernel_rfl
theorem fn48 (ax : Axs) : (EE ax).fn.at 48 = some Tryd.f48 := by kernel_rfl
theorem fn49 (ax : Axs) : (EE ax).fn.at 49 = some Tryd.f49 := by kernel_rfl
theorem fn50 (ax : Axs) : (EE ax).fn.at 50 = some Tryd.f50 := by kernel_rfl
theorem fn51 (ax : Axs) : (EE ax).fn.at 51 = some Tryd.f51 := by kernel_rfl
theorem fn52 (ax : Axs) : (EE ax).fn.at 52 = some Tryd.f52 := by kernel_rfl
theorem fn53 (ax : Axs) : (EE ax).fn.at 53 = some Tryd.f53 := by kernel_rfl
theorem fn54 (ax : Axs) : (EE ax).fn.at 54 = some Tryd.f54 := by kernel_rfl
theorem fn55 (ax : Axs) : (EE ax).fn.at 55 = some Tryd.f55 := by kernel_rfl
theorem fn56 (ax : Axs) : (EE ax).fn.at 56 = some Tryd.f56 := by kernel_rfl
theorem fn57 (ax : Axs) : (EE ax).fn.at 57 = some Tryd.f57 := by kernel_rfl
theorem fn58 (ax : Axs) : (EE ax).fn.at 58 = some Tryd.f58 := by kernel_rfl
theorem fn46 (ax : Axs) : (EE ax).fn.at 46 = some Tryd.f46 := by kernel_rfl
theorem fn59 (ax : Axs) : (EE ax).fn.at 59 = some Tryd.f59 := by kernel_rfl
theorem fn77 (ax : Axs) : (EE ax).fn.at 77 = some Tryd.f77 := by kernel_rfl
theorem fn78 (ax : Axs) : (EE ax).fn.at 78 = some Tryd.f78 := by kernel_rfl
theorem fn84 (ax : Axs) : (EE ax).fn.at 84 = some Tryd.f84 := by kernel_rfl
theorem ti4 (ax : Axs) : (EE ax).ti.at 4 = some ⟨.bool, 1, 1, [.bool false]⟩ := by kernel_rfl
theorem ti3 (ax : Axs) : (EE ax).ti.at 3 = some ⟨.int .i64, 1, 8, [.int .i64 0]⟩ := by kernel_rfl
theorem ti5 (ax : Axs) : (EE ax).ti.at 5 = some ⟨.int .u8, 1, 1, [.int .u8 0]⟩ := by kernel_rfl
theorem ti29 (ax : Axs) : (EE ax).ti.at 29 = some ⟨.int .u32, 1, 4, [.int .u32 0]⟩ := by kernel_rfl
theorem ti32 (ax : Axs) : (EE ax).ti.at 32 = some ⟨.int .u64, 1, 8, [.int .u64 0]⟩ := by kernel_rfl
theorem ti83 (ax : Axs) : (EE ax).ti.at 83 = some ⟨.int .u64, 1, 8, [.int .u64 0]⟩ := by kernel_rfl
theorem ti9 (ax : Axs) : (EE ax).ti.at 9 = some ⟨.string, 1, 16, [.string ⟨#[]⟩]⟩ := by kernel_rfl
theorem ti22 (ax : Axs) : (EE ax).ti.at 22 = some ⟨.slice 5, 1, 24, [.slice none 0 0]⟩ := by kernel_rfl
theorem ti27 (ax : Axs) : (EE ax).ti.at 27 = some ⟨.slice 9, 1, 24, [.slice none 0 0]⟩ := by kernel_rfl
theorem ti75 (ax : Axs) : (EE ax).ti.at 75 = some ⟨.array 64 29, 64, 256, List.replicate 64 (.int .u32 0)⟩ := by kernel_rfl
theorem ti30 (ax : Axs) : (EE ax).ti.at 30 = some ⟨.array 8 29, 8, 32, List.replicate 8 (.int .u32 0)⟩ := by kernel_rfl
theorem ti96 (ax : Axs) : (EE ax).ti.at 96 = some ⟨.array 4 29, 4, 16, List.replicate 4 (.int .u32 0)⟩ := by kernel_rfl
theorem ti31 (ax : Axs) : (EE ax).ti.at 31 = some ⟨.array 64 5, 64, 64, List.replicate 64 (.int .u8 0)⟩ := by kernel_rfl
theorem ti24 (ax : Axs) : (EE ax).ti.at 24 = some ⟨.array 32 5, 32, 32, List.replicate 32 (.int .u8 0)⟩ := by kernel_rfl
theorem ti43 (ax : Axs) : (EE ax).ti.at 43 = some ⟨.array 16 5, 16, 16, List.replicate 16 (.int .u8 0)⟩ := by kernel_rfl
theorem ti48 (ax : Axs) : (EE ax).ti.at 48 = some ⟨.array 2 5, 2, 2, List.replicate 2 (.int .u8 0)⟩ := by kernel_rfl
end Go.Proofs.YtcmfoipnoejmlaaDoor
