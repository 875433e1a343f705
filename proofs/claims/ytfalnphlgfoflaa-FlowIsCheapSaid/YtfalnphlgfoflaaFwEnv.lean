/- The environment of trees on this seat: functions and types, each by the kernel. -/
import Derived.Test.YtfalnphlgfoflaaProg
import Derived.Test.YtfalnphlgfoflaaTn
import Derived.KernelRfl
namespace Go.Proofs.Ytfalnphlgfoflaa
open Go Go.RowKit
set_option linter.unusedVariables false
noncomputable def LL : List Nat := [3, 4, 5, 6, 7, 8, 9, 10, 11, 12, 13, 14, 15, 16, 17, 18, 19, 20, 21, 22, 23, 24, 25, 26, 27, 28, 29, 30, 31, 32, 33, 34, 35, 36, 37, 38, 39, 40, 41, 42, 43, 44, 45, 46, 47, 48, 49, 50, 51, 52, 53, 54, 55, 56, 57, 58, 59, 60, 61, 62, 63, 64, 65, 66, 67, 68, 69, 70, 71]
def GG : List Nat := []
noncomputable def EE (ax : Axs) : Env := envAx Try.prog LL ax
theorem envs_ok (ax : Axs) : EnvOk Try.prog (EE ax) := env_ok _ _ _
theorem funcs_ok : funcsOk Try.prog GG LL = true := by kernel_rfl
theorem mixed : Try.prog.follows .mixedOrders = true := by kernel_rfl
noncomputable def aggO : Option (List T) → Option T
  | some l => some (.agg l)
  | none => none
theorem fn6 (ax : Axs) : (EE ax).fn.at 6 = some Try.f6 := by kernel_rfl
theorem fn9 (ax : Axs) : (EE ax).fn.at 9 = some Try.f9 := by kernel_rfl
theorem fn10 (ax : Axs) : (EE ax).fn.at 10 = some Try.f10 := by kernel_rfl
theorem fn11 (ax : Axs) : (EE ax).fn.at 11 = some Try.f11 := by kernel_rfl
theorem fn12 (ax : Axs) : (EE ax).fn.at 12 = some Try.f12 := by kernel_rfl
theorem fn15 (ax : Axs) : (EE ax).fn.at 15 = some Try.f15 := by kernel_rfl
theorem fn20 (ax : Axs) : (EE ax).fn.at 20 = some Try.f20 := by kernel_rfl
theorem fn21 (ax : Axs) : (EE ax).fn.at 21 = some Try.f21 := by kernel_rfl
theorem fn26 (ax : Axs) : (EE ax).fn.at 26 = some Try.f26 := by kernel_rfl
theorem fn29 (ax : Axs) : (EE ax).fn.at 29 = some Try.f29 := by kernel_rfl
theorem fn30 (ax : Axs) : (EE ax).fn.at 30 = some Try.f30 := by kernel_rfl
theorem fn31 (ax : Axs) : (EE ax).fn.at 31 = some Try.f31 := by kernel_rfl
theorem fn32 (ax : Axs) : (EE ax).fn.at 32 = some Try.f32 := by kernel_rfl
theorem fn33 (ax : Axs) : (EE ax).fn.at 33 = some Try.f33 := by kernel_rfl
theorem fn35 (ax : Axs) : (EE ax).fn.at 35 = some Try.f35 := by kernel_rfl
theorem fn36 (ax : Axs) : (EE ax).fn.at 36 = some Try.f36 := by kernel_rfl
theorem fn37 (ax : Axs) : (EE ax).fn.at 37 = some Try.f37 := by kernel_rfl
theorem fn38 (ax : Axs) : (EE ax).fn.at 38 = some Try.f38 := by kernel_rfl
theorem fn39 (ax : Axs) : (EE ax).fn.at 39 = some Try.f39 := by kernel_rfl
theorem fn40 (ax : Axs) : (EE ax).fn.at 40 = some Try.f40 := by kernel_rfl
theorem fn42 (ax : Axs) : (EE ax).fn.at 42 = some Try.f42 := by kernel_rfl
theorem fn43 (ax : Axs) : (EE ax).fn.at 43 = some Try.f43 := by kernel_rfl
theorem fn49 (ax : Axs) : (EE ax).fn.at 49 = some Try.f49 := by kernel_rfl
theorem fn50 (ax : Axs) : (EE ax).fn.at 50 = some Try.f50 := by kernel_rfl
theorem fn54 (ax : Axs) : (EE ax).fn.at 54 = some Try.f54 := by kernel_rfl
theorem fn56 (ax : Axs) : (EE ax).fn.at 56 = some Try.f56 := by kernel_rfl
theorem fn57 (ax : Axs) : (EE ax).fn.at 57 = some Try.f57 := by kernel_rfl
theorem fn58 (ax : Axs) : (EE ax).fn.at 58 = some Try.f58 := by kernel_rfl
theorem fn59 (ax : Axs) : (EE ax).fn.at 59 = some Try.f59 := by kernel_rfl
theorem fn60 (ax : Axs) : (EE ax).fn.at 60 = some Try.f60 := by kernel_rfl
theorem fn61 (ax : Axs) : (EE ax).fn.at 61 = some Try.f61 := by kernel_rfl
theorem fn62 (ax : Axs) : (EE ax).fn.at 62 = some Try.f62 := by kernel_rfl
theorem fn63 (ax : Axs) : (EE ax).fn.at 63 = some Try.f63 := by kernel_rfl
theorem fn64 (ax : Axs) : (EE ax).fn.at 64 = some Try.f64 := by kernel_rfl
theorem fn65 (ax : Axs) : (EE ax).fn.at 65 = some Try.f65 := by kernel_rfl
theorem fn71 (ax : Axs) : (EE ax).fn.at 71 = some Try.f71 := by kernel_rfl
theorem ti3 (ax : Axs) : (EE ax).ti.at 3 = some ⟨.int .i64, 1, 8, [.int .i64 0]⟩ := by kernel_rfl
theorem ti4 (ax : Axs) : (EE ax).ti.at 4 = some ⟨.bool, 1, 1, [.bool false]⟩ := by kernel_rfl
theorem ti9 (ax : Axs) : (EE ax).ti.at 9 = some ⟨.string, 1, 16, [.string ⟨#[]⟩]⟩ := by kernel_rfl
theorem ti22 (ax : Axs) : (EE ax).ti.at 22 = some ⟨.slice 98, 1, 24, [.slice none 0 0]⟩ := by kernel_rfl
theorem ti23 (ax : Axs) : (EE ax).ti.at 23 = some ⟨.slice 51, 1, 24, [.slice none 0 0]⟩ := by kernel_rfl
theorem ti24 (ax : Axs) : (EE ax).ti.at 24 = some ⟨.slice 100, 1, 24, [.slice none 0 0]⟩ := by kernel_rfl
theorem fa26_0 (ax : Axs) (S : TS) (b off N : Nat) : tFieldAddr (EE ax) S 26 0 (.ptr b off N) = bif S.has b N then some (.ptr b (off + 0) N) else none := by kernel_rfl
theorem fc26_0 (ax : Axs) (S : TS) (l : List T) : tFieldAddr (EE ax) S 26 0 (.cp l) = some (.cp (l.drop 0)) := by kernel_rfl
theorem fa26_1 (ax : Axs) (S : TS) (b off N : Nat) : tFieldAddr (EE ax) S 26 1 (.ptr b off N) = bif S.has b N then some (.ptr b (off + 1) N) else none := by kernel_rfl
theorem fc26_1 (ax : Axs) (S : TS) (l : List T) : tFieldAddr (EE ax) S 26 1 (.cp l) = some (.cp (l.drop 1)) := by kernel_rfl
theorem fa26_2 (ax : Axs) (S : TS) (b off N : Nat) : tFieldAddr (EE ax) S 26 2 (.ptr b off N) = bif S.has b N then some (.ptr b (off + 2) N) else none := by kernel_rfl
noncomputable def fs26 : Array Field := match Try.prog.underlying 26 with | some (.struct fs) => fs | _ => #[]
theorem ti26 (ax : Axs) : (EE ax).ti.at 26 = some ⟨.struct fs26, 3, 72, [.slice none 0 0, .slice none 0 0, .slice none 0 0]⟩ := by kernel_rfl
theorem ti27 (ax : Axs) : (EE ax).ti.at 27 = some ⟨.slice 3, 1, 24, [.slice none 0 0]⟩ := by kernel_rfl
theorem sr27 (ax : Axs) : srcT (EE ax) 27 = true := by kernel_rfl
theorem fa29_0 (ax : Axs) (S : TS) (b off N : Nat) : tFieldAddr (EE ax) S 29 0 (.ptr b off N) = bif S.has b N then some (.ptr b (off + 0) N) else none := by kernel_rfl
theorem fa29_1 (ax : Axs) (S : TS) (b off N : Nat) : tFieldAddr (EE ax) S 29 1 (.ptr b off N) = bif S.has b N then some (.ptr b (off + 1) N) else none := by kernel_rfl
noncomputable def fs29 : Array Field := match Try.prog.underlying 29 with | some (.struct fs) => fs | _ => #[]
theorem ti29 (ax : Axs) : (EE ax).ti.at 29 = some ⟨.struct fs29, 2, 32, [.slice none 0 0, .int .i64 0]⟩ := by kernel_rfl
theorem ti30 (ax : Axs) : (EE ax).ti.at 30 = some ⟨.slice 41, 1, 24, [.slice none 0 0]⟩ := by kernel_rfl
theorem fa41_0 (ax : Axs) (S : TS) (b off N : Nat) : tFieldAddr (EE ax) S 41 0 (.ptr b off N) = bif S.has b N then some (.ptr b (off + 0) N) else none := by kernel_rfl
theorem fc41_0 (ax : Axs) (S : TS) (l : List T) : tFieldAddr (EE ax) S 41 0 (.cp l) = some (.cp (l.drop 0)) := by kernel_rfl
theorem fa41_1 (ax : Axs) (S : TS) (b off N : Nat) : tFieldAddr (EE ax) S 41 1 (.ptr b off N) = bif S.has b N then some (.ptr b (off + 1) N) else none := by kernel_rfl
theorem fc41_1 (ax : Axs) (S : TS) (l : List T) : tFieldAddr (EE ax) S 41 1 (.cp l) = some (.cp (l.drop 1)) := by kernel_rfl
noncomputable def fs41 : Array Field := match Try.prog.underlying 41 with | some (.struct fs) => fs | _ => #[]
theorem ti41 (ax : Axs) : (EE ax).ti.at 41 = some ⟨.struct fs41, 2, 32, [.slice none 0 0, .int .i64 0]⟩ := by kernel_rfl
theorem ti48 (ax : Axs) : (EE ax).ti.at 48 = some ⟨.map 3 4, 1, 8, [.map none]⟩ := by kernel_rfl
theorem fa51_0 (ax : Axs) (S : TS) (b off N : Nat) : tFieldAddr (EE ax) S 51 0 (.ptr b off N) = bif S.has b N then some (.ptr b (off + 0) N) else none := by kernel_rfl
theorem fc51_0 (ax : Axs) (S : TS) (l : List T) : tFieldAddr (EE ax) S 51 0 (.cp l) = some (.cp (l.drop 0)) := by kernel_rfl
theorem fa51_1 (ax : Axs) (S : TS) (b off N : Nat) : tFieldAddr (EE ax) S 51 1 (.ptr b off N) = bif S.has b N then some (.ptr b (off + 1) N) else none := by kernel_rfl
theorem fc51_1 (ax : Axs) (S : TS) (l : List T) : tFieldAddr (EE ax) S 51 1 (.cp l) = some (.cp (l.drop 1)) := by kernel_rfl
theorem fa51_2 (ax : Axs) (S : TS) (b off N : Nat) : tFieldAddr (EE ax) S 51 2 (.ptr b off N) = bif S.has b N then some (.ptr b (off + 2) N) else none := by kernel_rfl
theorem fc51_2 (ax : Axs) (S : TS) (l : List T) : tFieldAddr (EE ax) S 51 2 (.cp l) = some (.cp (l.drop 2)) := by kernel_rfl
noncomputable def fs51 : Array Field := match Try.prog.underlying 51 with | some (.struct fs) => fs | _ => #[]
theorem ti51 (ax : Axs) : (EE ax).ti.at 51 = some ⟨.struct fs51, 3, 24, [.int .i64 0, .int .i64 0, .int .i64 0]⟩ := by kernel_rfl
theorem ti69 (ax : Axs) : (EE ax).ti.at 69 = some ⟨.slice 105, 1, 24, [.slice none 0 0]⟩ := by kernel_rfl
theorem ti70 (ax : Axs) : (EE ax).ti.at 70 = some ⟨.slice 4, 1, 24, [.slice none 0 0]⟩ := by kernel_rfl
noncomputable def fs74 : Array Field := match Try.prog.underlying 74 with | some (.struct fs) => fs | _ => #[]
theorem bt74 (ax : Axs) (ρ : Operand → T) (parts : List (Nat × Operand)) : tBuild (EE ax) ρ 74 parts = aggO (buildT [] (partsT (placeS (EE ax) fs74) ρ parts)) := by kernel_rfl
theorem ti74 (ax : Axs) : (EE ax).ti.at 74 = some ⟨.struct fs74, 0, 0, []⟩ := by kernel_rfl
theorem ti75 (ax : Axs) : (EE ax).ti.at 75 = some ⟨.slice 78, 1, 24, [.slice none 0 0]⟩ := by kernel_rfl
theorem sr75 (ax : Axs) : srcT (EE ax) 75 = true := by kernel_rfl
theorem fa78_0 (ax : Axs) (S : TS) (b off N : Nat) : tFieldAddr (EE ax) S 78 0 (.ptr b off N) = bif S.has b N then some (.ptr b (off + 0) N) else none := by kernel_rfl
theorem fc78_0 (ax : Axs) (S : TS) (l : List T) : tFieldAddr (EE ax) S 78 0 (.cp l) = some (.cp (l.drop 0)) := by kernel_rfl
theorem fc78_1 (ax : Axs) (S : TS) (l : List T) : tFieldAddr (EE ax) S 78 1 (.cp l) = some (.cp (l.drop 1)) := by kernel_rfl
theorem fc78_2 (ax : Axs) (S : TS) (l : List T) : tFieldAddr (EE ax) S 78 2 (.cp l) = some (.cp (l.drop 2)) := by kernel_rfl
theorem fc78_3 (ax : Axs) (S : TS) (l : List T) : tFieldAddr (EE ax) S 78 3 (.cp l) = some (.cp (l.drop 3)) := by kernel_rfl
noncomputable def fs78 : Array Field := match Try.prog.underlying 78 with | some (.struct fs) => fs | _ => #[]
theorem bt78 (ax : Axs) (ρ : Operand → T) (parts : List (Nat × Operand)) : tBuild (EE ax) ρ 78 parts = aggO (buildT [.int .i64 0, .int .i64 0, .int .i64 0, .bool false] (partsT (placeS (EE ax) fs78) ρ parts)) := by kernel_rfl
theorem ti78 (ax : Axs) : (EE ax).ti.at 78 = some ⟨.struct fs78, 4, 32, [.int .i64 0, .int .i64 0, .int .i64 0, .bool false]⟩ := by kernel_rfl
theorem pl78_0 (ax : Axs) : placeS (EE ax) fs78 0 = some (0, 1) := by kernel_rfl
theorem pl78_1 (ax : Axs) : placeS (EE ax) fs78 1 = some (1, 1) := by kernel_rfl
theorem pl78_2 (ax : Axs) : placeS (EE ax) fs78 2 = some (2, 1) := by kernel_rfl
theorem pl78_3 (ax : Axs) : placeS (EE ax) fs78 3 = some (3, 1) := by kernel_rfl
theorem ti86 (ax : Axs) : (EE ax).ti.at 86 = some ⟨.slice 111, 1, 24, [.slice none 0 0]⟩ := by kernel_rfl
theorem ti89 (ax : Axs) : (EE ax).ti.at 89 = some ⟨.slice 113, 1, 24, [.slice none 0 0]⟩ := by kernel_rfl
theorem sr89 (ax : Axs) : srcT (EE ax) 89 = true := by kernel_rfl
theorem ti93 (ax : Axs) : (EE ax).ti.at 93 = some ⟨.slice 9, 1, 24, [.slice none 0 0]⟩ := by kernel_rfl
theorem sr93 (ax : Axs) : srcT (EE ax) 93 = true := by kernel_rfl
theorem fc98_0 (ax : Axs) (S : TS) (l : List T) : tFieldAddr (EE ax) S 98 0 (.cp l) = some (.cp (l.drop 0)) := by kernel_rfl
theorem fa98_2 (ax : Axs) (S : TS) (b off N : Nat) : tFieldAddr (EE ax) S 98 2 (.ptr b off N) = bif S.has b N then some (.ptr b (off + 2) N) else none := by kernel_rfl
theorem fa98_3 (ax : Axs) (S : TS) (b off N : Nat) : tFieldAddr (EE ax) S 98 3 (.ptr b off N) = bif S.has b N then some (.ptr b (off + 3) N) else none := by kernel_rfl
noncomputable def fs98 : Array Field := match Try.prog.underlying 98 with | some (.struct fs) => fs | _ => #[]
theorem ti98 (ax : Axs) : (EE ax).ti.at 98 = some ⟨.struct fs98, 4, 40, [.string ⟨#[]⟩, .bool false, .int .i64 0, .int .i64 0]⟩ := by kernel_rfl
theorem fc100_0 (ax : Axs) (S : TS) (l : List T) : tFieldAddr (EE ax) S 100 0 (.cp l) = some (.cp (l.drop 0)) := by kernel_rfl
theorem fc100_1 (ax : Axs) (S : TS) (l : List T) : tFieldAddr (EE ax) S 100 1 (.cp l) = some (.cp (l.drop 1)) := by kernel_rfl
noncomputable def fs100 : Array Field := match Try.prog.underlying 100 with | some (.struct fs) => fs | _ => #[]
theorem ti100 (ax : Axs) : (EE ax).ti.at 100 = some ⟨.struct fs100, 2, 24, [.string ⟨#[]⟩, .int .i64 0]⟩ := by kernel_rfl
theorem ti102 (ax : Axs) : (EE ax).ti.at 102 = some ⟨.slice 107, 1, 24, [.slice none 0 0]⟩ := by kernel_rfl
theorem sr102 (ax : Axs) : srcT (EE ax) 102 = true := by kernel_rfl
theorem ti105 (ax : Axs) : (EE ax).ti.at 105 = some ⟨.pointer 107, 1, 8, [.pointer none]⟩ := by kernel_rfl
theorem fc107_0 (ax : Axs) (S : TS) (l : List T) : tFieldAddr (EE ax) S 107 0 (.cp l) = some (.cp (l.drop 0)) := by kernel_rfl
theorem fc107_1 (ax : Axs) (S : TS) (l : List T) : tFieldAddr (EE ax) S 107 1 (.cp l) = some (.cp (l.drop 1)) := by kernel_rfl
theorem fc107_2 (ax : Axs) (S : TS) (l : List T) : tFieldAddr (EE ax) S 107 2 (.cp l) = some (.cp (l.drop 2)) := by kernel_rfl
theorem fc107_3 (ax : Axs) (S : TS) (l : List T) : tFieldAddr (EE ax) S 107 3 (.cp l) = some (.cp (l.drop 3)) := by kernel_rfl
theorem fc107_4 (ax : Axs) (S : TS) (l : List T) : tFieldAddr (EE ax) S 107 4 (.cp l) = some (.cp (l.drop 4)) := by kernel_rfl
noncomputable def fs107 : Array Field := match Try.prog.underlying 107 with | some (.struct fs) => fs | _ => #[]
theorem bt107 (ax : Axs) (ρ : Operand → T) (parts : List (Nat × Operand)) : tBuild (EE ax) ρ 107 parts = aggO (buildT [.int .i64 0, .int .i64 0, .int .i64 0, .int .i64 0, .bool false] (partsT (placeS (EE ax) fs107) ρ parts)) := by kernel_rfl
theorem ti107 (ax : Axs) : (EE ax).ti.at 107 = some ⟨.struct fs107, 5, 40, [.int .i64 0, .int .i64 0, .int .i64 0, .int .i64 0, .bool false]⟩ := by kernel_rfl
theorem pl107_0 (ax : Axs) : placeS (EE ax) fs107 0 = some (0, 1) := by kernel_rfl
theorem pl107_1 (ax : Axs) : placeS (EE ax) fs107 1 = some (1, 1) := by kernel_rfl
theorem pl107_2 (ax : Axs) : placeS (EE ax) fs107 2 = some (2, 1) := by kernel_rfl
theorem pl107_3 (ax : Axs) : placeS (EE ax) fs107 3 = some (3, 1) := by kernel_rfl
theorem pl107_4 (ax : Axs) : placeS (EE ax) fs107 4 = some (4, 1) := by kernel_rfl
theorem pl107_5 (ax : Axs) : placeS (EE ax) fs107 5 = some (5, 0) := by kernel_rfl
theorem ti111 (ax : Axs) : (EE ax).ti.at 111 = some ⟨.pointer 113, 1, 8, [.pointer none]⟩ := by kernel_rfl
theorem fc113_0 (ax : Axs) (S : TS) (l : List T) : tFieldAddr (EE ax) S 113 0 (.cp l) = some (.cp (l.drop 0)) := by kernel_rfl
theorem fc113_1 (ax : Axs) (S : TS) (l : List T) : tFieldAddr (EE ax) S 113 1 (.cp l) = some (.cp (l.drop 1)) := by kernel_rfl
theorem fc113_2 (ax : Axs) (S : TS) (l : List T) : tFieldAddr (EE ax) S 113 2 (.cp l) = some (.cp (l.drop 2)) := by kernel_rfl
theorem fc113_3 (ax : Axs) (S : TS) (l : List T) : tFieldAddr (EE ax) S 113 3 (.cp l) = some (.cp (l.drop 3)) := by kernel_rfl
theorem fc113_4 (ax : Axs) (S : TS) (l : List T) : tFieldAddr (EE ax) S 113 4 (.cp l) = some (.cp (l.drop 4)) := by kernel_rfl
theorem fc113_5 (ax : Axs) (S : TS) (l : List T) : tFieldAddr (EE ax) S 113 5 (.cp l) = some (.cp (l.drop 5)) := by kernel_rfl
noncomputable def fs113 : Array Field := match Try.prog.underlying 113 with | some (.struct fs) => fs | _ => #[]
theorem bt113 (ax : Axs) (ρ : Operand → T) (parts : List (Nat × Operand)) : tBuild (EE ax) ρ 113 parts = aggO (buildT [.int .i64 0, .int .i64 0, .int .i64 0, .int .i64 0, .bool false, .int .i64 0] (partsT (placeS (EE ax) fs113) ρ parts)) := by kernel_rfl
theorem ti113 (ax : Axs) : (EE ax).ti.at 113 = some ⟨.struct fs113, 6, 48, [.int .i64 0, .int .i64 0, .int .i64 0, .int .i64 0, .bool false, .int .i64 0]⟩ := by kernel_rfl
theorem pl113_0 (ax : Axs) : placeS (EE ax) fs113 0 = some (0, 1) := by kernel_rfl
theorem pl113_1 (ax : Axs) : placeS (EE ax) fs113 1 = some (1, 1) := by kernel_rfl
theorem pl113_2 (ax : Axs) : placeS (EE ax) fs113 2 = some (2, 1) := by kernel_rfl
theorem pl113_3 (ax : Axs) : placeS (EE ax) fs113 3 = some (3, 1) := by kernel_rfl
theorem pl113_4 (ax : Axs) : placeS (EE ax) fs113 4 = some (4, 1) := by kernel_rfl
theorem pl113_5 (ax : Axs) : placeS (EE ax) fs113 5 = some (5, 1) := by kernel_rfl
theorem el27 (ax : Axs) : elemOf? (EE ax) 27 = some ⟨.int .i64, 1, 8, [.int .i64 0]⟩ := by kernel_rfl
theorem el69 (ax : Axs) : elemOf? (EE ax) 69 = some ⟨.pointer 107, 1, 8, [.pointer none]⟩ := by kernel_rfl
theorem el70 (ax : Axs) : elemOf? (EE ax) 70 = some ⟨.bool, 1, 1, [.bool false]⟩ := by kernel_rfl
theorem el75 (ax : Axs) : elemOf? (EE ax) 75 = some ⟨.struct fs78, 4, 32, [.int .i64 0, .int .i64 0, .int .i64 0, .bool false]⟩ := by kernel_rfl
theorem el86 (ax : Axs) : elemOf? (EE ax) 86 = some ⟨.pointer 113, 1, 8, [.pointer none]⟩ := by kernel_rfl
theorem el89 (ax : Axs) : elemOf? (EE ax) 89 = some ⟨.struct fs113, 6, 48, [.int .i64 0, .int .i64 0, .int .i64 0, .int .i64 0, .bool false, .int .i64 0]⟩ := by kernel_rfl
theorem el93 (ax : Axs) : elemOf? (EE ax) 93 = some ⟨.string, 1, 16, [.string ⟨#[]⟩]⟩ := by kernel_rfl
theorem el102 (ax : Axs) : elemOf? (EE ax) 102 = some ⟨.struct fs107, 5, 40, [.int .i64 0, .int .i64 0, .int .i64 0, .int .i64 0, .bool false]⟩ := by kernel_rfl
end Go.Proofs.Ytfalnphlgfoflaa
