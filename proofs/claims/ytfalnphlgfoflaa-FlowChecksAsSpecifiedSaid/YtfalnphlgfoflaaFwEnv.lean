/- The environment of trees on this seat: functions and types, each by the kernel. -/
import Derived.Test.YtfalnphlgfoflaaProg
import Derived.Test.YtfalnphlgfoflaaTn
import Derived.KernelRfl
namespace Go.Proofs.Ytfalnphlgfoflaa
open Go Go.RowKit
set_option linter.unusedVariables false
noncomputable def LL : List Nat := [3, 4, 5, 6, 7, 8, 9, 10, 11, 12, 13, 14, 15, 16, 17, 18, 19, 20, 21, 22, 23, 24, 25, 26, 27, 28, 29, 30, 31, 32, 33, 34, 35, 36, 37, 38, 39, 40, 41, 42, 43, 44, 45, 46, 47, 48, 49, 50, 51, 52, 53, 54, 55, 56, 57, 58, 59, 60, 61, 62, 63, 64, 65, 66, 67, 68, 69, 70, 71]
def GG : List Nat := []
noncomputable def EE (ax : Axs) : Env := envAx Try.prog LL ax
theorem envs_ok (ax : Axs) : EnvOk Try.prog (EE ax) := env_ok _ _ _
theorem funcs_ok : funcsOk Try.prog GG LL = true := by kernel_rfl
theorem mixed : Try.prog.follows .mixedOrders = true := by kernel_rfl
noncomputable def aggO : Option (List T) → Option T
  | some l => some (.agg l)
  | none => none
theorem fn3 (ax : Axs) : (EE ax).fn.at 3 = some Try.f3 := by kernel_rfl
theorem fn4 (ax : Axs) : (EE ax).fn.at 4 = some Try.f4 := by kernel_rfl
theorem fn5 (ax : Axs) : (EE ax).fn.at 5 = some Try.f5 := by kernel_rfl
theorem fn6 (ax : Axs) : (EE ax).fn.at 6 = some Try.f6 := by kernel_rfl
theorem fn7 (ax : Axs) : (EE ax).fn.at 7 = some Try.f7 := by kernel_rfl
theorem fn8 (ax : Axs) : (EE ax).fn.at 8 = some Try.f8 := by kernel_rfl
theorem fn9 (ax : Axs) : (EE ax).fn.at 9 = some Try.f9 := by kernel_rfl
theorem fn10 (ax : Axs) : (EE ax).fn.at 10 = some Try.f10 := by kernel_rfl
theorem fn11 (ax : Axs) : (EE ax).fn.at 11 = some Try.f11 := by kernel_rfl
theorem fn12 (ax : Axs) : (EE ax).fn.at 12 = some Try.f12 := by kernel_rfl
theorem fn13 (ax : Axs) : (EE ax).fn.at 13 = some Try.f13 := by kernel_rfl
theorem fn14 (ax : Axs) : (EE ax).fn.at 14 = some Try.f14 := by kernel_rfl
theorem fn15 (ax : Axs) : (EE ax).fn.at 15 = some Try.f15 := by kernel_rfl
theorem fn16 (ax : Axs) : (EE ax).fn.at 16 = some Try.f16 := by kernel_rfl
theorem fn17 (ax : Axs) : (EE ax).fn.at 17 = some Try.f17 := by kernel_rfl
theorem fn18 (ax : Axs) : (EE ax).fn.at 18 = some Try.f18 := by kernel_rfl
theorem fn19 (ax : Axs) : (EE ax).fn.at 19 = some Try.f19 := by kernel_rfl
theorem fn20 (ax : Axs) : (EE ax).fn.at 20 = some Try.f20 := by kernel_rfl
theorem fn21 (ax : Axs) : (EE ax).fn.at 21 = some Try.f21 := by kernel_rfl
theorem fn22 (ax : Axs) : (EE ax).fn.at 22 = some Try.f22 := by kernel_rfl
theorem fn23 (ax : Axs) : (EE ax).fn.at 23 = some Try.f23 := by kernel_rfl
theorem fn24 (ax : Axs) : (EE ax).fn.at 24 = some Try.f24 := by kernel_rfl
theorem fn25 (ax : Axs) : (EE ax).fn.at 25 = some Try.f25 := by kernel_rfl
theorem fn26 (ax : Axs) : (EE ax).fn.at 26 = some Try.f26 := by kernel_rfl
theorem fn27 (ax : Axs) : (EE ax).fn.at 27 = some Try.f27 := by kernel_rfl
theorem fn28 (ax : Axs) : (EE ax).fn.at 28 = some Try.f28 := by kernel_rfl
theorem fn29 (ax : Axs) : (EE ax).fn.at 29 = some Try.f29 := by kernel_rfl
theorem fn30 (ax : Axs) : (EE ax).fn.at 30 = some Try.f30 := by kernel_rfl
theorem fn31 (ax : Axs) : (EE ax).fn.at 31 = some Try.f31 := by kernel_rfl
theorem fn32 (ax : Axs) : (EE ax).fn.at 32 = some Try.f32 := by kernel_rfl
theorem fn33 (ax : Axs) : (EE ax).fn.at 33 = some Try.f33 := by kernel_rfl
theorem fn34 (ax : Axs) : (EE ax).fn.at 34 = some Try.f34 := by kernel_rfl
theorem fn35 (ax : Axs) : (EE ax).fn.at 35 = some Try.f35 := by kernel_rfl
theorem fn36 (ax : Axs) : (EE ax).fn.at 36 = some Try.f36 := by kernel_rfl
theorem fn37 (ax : Axs) : (EE ax).fn.at 37 = some Try.f37 := by kernel_rfl
theorem fn38 (ax : Axs) : (EE ax).fn.at 38 = some Try.f38 := by kernel_rfl
theorem fn39 (ax : Axs) : (EE ax).fn.at 39 = some Try.f39 := by kernel_rfl
theorem fn40 (ax : Axs) : (EE ax).fn.at 40 = some Try.f40 := by kernel_rfl
theorem fn41 (ax : Axs) : (EE ax).fn.at 41 = some Try.f41 := by kernel_rfl
theorem fn42 (ax : Axs) : (EE ax).fn.at 42 = some Try.f42 := by kernel_rfl
theorem fn43 (ax : Axs) : (EE ax).fn.at 43 = some Try.f43 := by kernel_rfl
theorem fn44 (ax : Axs) : (EE ax).fn.at 44 = some Try.f44 := by kernel_rfl
theorem fn45 (ax : Axs) : (EE ax).fn.at 45 = some Try.f45 := by kernel_rfl
theorem fn46 (ax : Axs) : (EE ax).fn.at 46 = some Try.f46 := by kernel_rfl
theorem fn47 (ax : Axs) : (EE ax).fn.at 47 = some Try.f47 := by kernel_rfl
theorem fn48 (ax : Axs) : (EE ax).fn.at 48 = some Try.f48 := by kernel_rfl
theorem fn49 (ax : Axs) : (EE ax).fn.at 49 = some Try.f49 := by kernel_rfl
theorem fn50 (ax : Axs) : (EE ax).fn.at 50 = some Try.f50 := by kernel_rfl
theorem fn51 (ax : Axs) : (EE ax).fn.at 51 = some Try.f51 := by kernel_rfl
theorem fn52 (ax : Axs) : (EE ax).fn.at 52 = some Try.f52 := by kernel_rfl
theorem fn53 (ax : Axs) : (EE ax).fn.at 53 = some Try.f53 := by kernel_rfl
theorem fn54 (ax : Axs) : (EE ax).fn.at 54 = some Try.f54 := by kernel_rfl
theorem fn55 (ax : Axs) : (EE ax).fn.at 55 = some Try.f55 := by kernel_rfl
theorem fn56 (ax : Axs) : (EE ax).fn.at 56 = some Try.f56 := by kernel_rfl
theorem fn57 (ax : Axs) : (EE ax).fn.at 57 = some Try.f57 := by kernel_rfl
theorem fn58 (ax : Axs) : (EE ax).fn.at 58 = some Try.f58 := by kernel_rfl
theorem fn59 (ax : Axs) : (EE ax).fn.at 59 = some Try.f59 := by kernel_rfl
theorem fn60 (ax : Axs) : (EE ax).fn.at 60 = some Try.f60 := by kernel_rfl
theorem fn61 (ax : Axs) : (EE ax).fn.at 61 = some Try.f61 := by kernel_rfl
theorem fn62 (ax : Axs) : (EE ax).fn.at 62 = some Try.f62 := by kernel_rfl
theorem fn63 (ax : Axs) : (EE ax).fn.at 63 = some Try.f63 := by kernel_rfl
theorem fn64 (ax : Axs) : (EE ax).fn.at 64 = some Try.f64 := by kernel_rfl
theorem fn65 (ax : Axs) : (EE ax).fn.at 65 = some Try.f65 := by kernel_rfl
theorem fn66 (ax : Axs) : (EE ax).fn.at 66 = some Try.f66 := by kernel_rfl
theorem fn67 (ax : Axs) : (EE ax).fn.at 67 = some Try.f67 := by kernel_rfl
theorem fn68 (ax : Axs) : (EE ax).fn.at 68 = some Try.f68 := by kernel_rfl
theorem fn69 (ax : Axs) : (EE ax).fn.at 69 = some Try.f69 := by kernel_rfl
theorem fn70 (ax : Axs) : (EE ax).fn.at 70 = some Try.f70 := by kernel_rfl
theorem fn71 (ax : Axs) : (EE ax).fn.at 71 = some Try.f71 := by kernel_rfl
theorem ti2 (ax : Axs) : (EE ax).ti.at 2 = some ⟨.int .i64, 1, 8, [.int .i64 0]⟩ := by kernel_rfl
theorem ti3 (ax : Axs) : (EE ax).ti.at 3 = some ⟨.int .i64, 1, 8, [.int .i64 0]⟩ := by kernel_rfl
theorem ti4 (ax : Axs) : (EE ax).ti.at 4 = some ⟨.bool, 1, 1, [.bool false]⟩ := by kernel_rfl
theorem ti5 (ax : Axs) : (EE ax).ti.at 5 = some ⟨.int .u8, 1, 1, [.int .u8 0]⟩ := by kernel_rfl
theorem ti9 (ax : Axs) : (EE ax).ti.at 9 = some ⟨.string, 1, 16, [.string ⟨#[]⟩]⟩ := by kernel_rfl
theorem ti21 (ax : Axs) : (EE ax).ti.at 21 = some ⟨.int .i32, 1, 4, [.int .i32 0]⟩ := by kernel_rfl
theorem ti22 (ax : Axs) : (EE ax).ti.at 22 = some ⟨.slice 98, 1, 24, [.slice none 0 0]⟩ := by kernel_rfl
theorem sr22 (ax : Axs) : srcT (EE ax) 22 = true := by kernel_rfl
theorem ti23 (ax : Axs) : (EE ax).ti.at 23 = some ⟨.slice 51, 1, 24, [.slice none 0 0]⟩ := by kernel_rfl
theorem sr23 (ax : Axs) : srcT (EE ax) 23 = true := by kernel_rfl
theorem ti24 (ax : Axs) : (EE ax).ti.at 24 = some ⟨.slice 100, 1, 24, [.slice none 0 0]⟩ := by kernel_rfl
theorem sr24 (ax : Axs) : srcT (EE ax) 24 = true := by kernel_rfl
theorem fld25_0 (ax : Axs) (l : List T) : tField (EE ax) 25 0 (.agg l) = l[0]? := by kernel_rfl
theorem fa25_0 (ax : Axs) (S : TS) (b off N : Nat) : tFieldAddr (EE ax) S 25 0 (.ptr b off N) = bif S.has b N then some (.ptr b (off + 0) N) else none := by kernel_rfl
theorem fc25_0 (ax : Axs) (S : TS) (l : List T) : tFieldAddr (EE ax) S 25 0 (.cp l) = some (.cp (l.drop 0)) := by kernel_rfl
theorem fld25_1 (ax : Axs) (l : List T) : tField (EE ax) 25 1 (.agg l) = l[1]? := by kernel_rfl
theorem fa25_1 (ax : Axs) (S : TS) (b off N : Nat) : tFieldAddr (EE ax) S 25 1 (.ptr b off N) = bif S.has b N then some (.ptr b (off + 1) N) else none := by kernel_rfl
theorem fc25_1 (ax : Axs) (S : TS) (l : List T) : tFieldAddr (EE ax) S 25 1 (.cp l) = some (.cp (l.drop 1)) := by kernel_rfl
theorem fld25_2 (ax : Axs) (l : List T) : tField (EE ax) 25 2 (.agg l) = l[2]? := by kernel_rfl
theorem fa25_2 (ax : Axs) (S : TS) (b off N : Nat) : tFieldAddr (EE ax) S 25 2 (.ptr b off N) = bif S.has b N then some (.ptr b (off + 2) N) else none := by kernel_rfl
theorem fc25_2 (ax : Axs) (S : TS) (l : List T) : tFieldAddr (EE ax) S 25 2 (.cp l) = some (.cp (l.drop 2)) := by kernel_rfl
noncomputable def fs25 : Array Field := match Try.prog.underlying 25 with | some (.struct fs) => fs | _ => #[]
theorem bt25 (ax : Axs) (ρ : Operand → T) (parts : List (Nat × Operand)) : tBuild (EE ax) ρ 25 parts = aggO (buildT [.slice none 0 0, .slice none 0 0, .slice none 0 0] (partsT (placeS (EE ax) fs25) ρ parts)) := by kernel_rfl
theorem ti25 (ax : Axs) : (EE ax).ti.at 25 = some ⟨.struct fs25, 3, 72, [.slice none 0 0, .slice none 0 0, .slice none 0 0]⟩ := by kernel_rfl
theorem pl25_0 (ax : Axs) : placeS (EE ax) fs25 0 = some (0, 1) := by kernel_rfl
theorem pl25_1 (ax : Axs) : placeS (EE ax) fs25 1 = some (1, 1) := by kernel_rfl
theorem pl25_2 (ax : Axs) : placeS (EE ax) fs25 2 = some (2, 1) := by kernel_rfl
theorem fld26_0 (ax : Axs) (l : List T) : tField (EE ax) 26 0 (.agg l) = l[0]? := by kernel_rfl
theorem fa26_0 (ax : Axs) (S : TS) (b off N : Nat) : tFieldAddr (EE ax) S 26 0 (.ptr b off N) = bif S.has b N then some (.ptr b (off + 0) N) else none := by kernel_rfl
theorem fc26_0 (ax : Axs) (S : TS) (l : List T) : tFieldAddr (EE ax) S 26 0 (.cp l) = some (.cp (l.drop 0)) := by kernel_rfl
theorem fld26_1 (ax : Axs) (l : List T) : tField (EE ax) 26 1 (.agg l) = l[1]? := by kernel_rfl
theorem fa26_1 (ax : Axs) (S : TS) (b off N : Nat) : tFieldAddr (EE ax) S 26 1 (.ptr b off N) = bif S.has b N then some (.ptr b (off + 1) N) else none := by kernel_rfl
theorem fc26_1 (ax : Axs) (S : TS) (l : List T) : tFieldAddr (EE ax) S 26 1 (.cp l) = some (.cp (l.drop 1)) := by kernel_rfl
theorem fld26_2 (ax : Axs) (l : List T) : tField (EE ax) 26 2 (.agg l) = l[2]? := by kernel_rfl
theorem fa26_2 (ax : Axs) (S : TS) (b off N : Nat) : tFieldAddr (EE ax) S 26 2 (.ptr b off N) = bif S.has b N then some (.ptr b (off + 2) N) else none := by kernel_rfl
theorem fc26_2 (ax : Axs) (S : TS) (l : List T) : tFieldAddr (EE ax) S 26 2 (.cp l) = some (.cp (l.drop 2)) := by kernel_rfl
noncomputable def fs26 : Array Field := match Try.prog.underlying 26 with | some (.struct fs) => fs | _ => #[]
theorem bt26 (ax : Axs) (ρ : Operand → T) (parts : List (Nat × Operand)) : tBuild (EE ax) ρ 26 parts = aggO (buildT [.slice none 0 0, .slice none 0 0, .slice none 0 0] (partsT (placeS (EE ax) fs26) ρ parts)) := by kernel_rfl
theorem ti26 (ax : Axs) : (EE ax).ti.at 26 = some ⟨.struct fs26, 3, 72, [.slice none 0 0, .slice none 0 0, .slice none 0 0]⟩ := by kernel_rfl
theorem pl26_0 (ax : Axs) : placeS (EE ax) fs26 0 = some (0, 1) := by kernel_rfl
theorem pl26_1 (ax : Axs) : placeS (EE ax) fs26 1 = some (1, 1) := by kernel_rfl
theorem pl26_2 (ax : Axs) : placeS (EE ax) fs26 2 = some (2, 1) := by kernel_rfl
theorem ti27 (ax : Axs) : (EE ax).ti.at 27 = some ⟨.slice 3, 1, 24, [.slice none 0 0]⟩ := by kernel_rfl
theorem sr27 (ax : Axs) : srcT (EE ax) 27 = true := by kernel_rfl
theorem fld28_0 (ax : Axs) (l : List T) : tField (EE ax) 28 0 (.agg l) = l[0]? := by kernel_rfl
theorem fa28_0 (ax : Axs) (S : TS) (b off N : Nat) : tFieldAddr (EE ax) S 28 0 (.ptr b off N) = bif S.has b N then some (.ptr b (off + 0) N) else none := by kernel_rfl
theorem fc28_0 (ax : Axs) (S : TS) (l : List T) : tFieldAddr (EE ax) S 28 0 (.cp l) = some (.cp (l.drop 0)) := by kernel_rfl
theorem fld28_1 (ax : Axs) (l : List T) : tField (EE ax) 28 1 (.agg l) = l[1]? := by kernel_rfl
theorem fa28_1 (ax : Axs) (S : TS) (b off N : Nat) : tFieldAddr (EE ax) S 28 1 (.ptr b off N) = bif S.has b N then some (.ptr b (off + 1) N) else none := by kernel_rfl
theorem fc28_1 (ax : Axs) (S : TS) (l : List T) : tFieldAddr (EE ax) S 28 1 (.cp l) = some (.cp (l.drop 1)) := by kernel_rfl
noncomputable def fs28 : Array Field := match Try.prog.underlying 28 with | some (.struct fs) => fs | _ => #[]
theorem bt28 (ax : Axs) (ρ : Operand → T) (parts : List (Nat × Operand)) : tBuild (EE ax) ρ 28 parts = aggO (buildT [.slice none 0 0, .int .i64 0] (partsT (placeS (EE ax) fs28) ρ parts)) := by kernel_rfl
theorem ti28 (ax : Axs) : (EE ax).ti.at 28 = some ⟨.struct fs28, 2, 32, [.slice none 0 0, .int .i64 0]⟩ := by kernel_rfl
theorem pl28_0 (ax : Axs) : placeS (EE ax) fs28 0 = some (0, 1) := by kernel_rfl
theorem pl28_1 (ax : Axs) : placeS (EE ax) fs28 1 = some (1, 1) := by kernel_rfl
theorem fld29_0 (ax : Axs) (l : List T) : tField (EE ax) 29 0 (.agg l) = l[0]? := by kernel_rfl
theorem fa29_0 (ax : Axs) (S : TS) (b off N : Nat) : tFieldAddr (EE ax) S 29 0 (.ptr b off N) = bif S.has b N then some (.ptr b (off + 0) N) else none := by kernel_rfl
theorem fc29_0 (ax : Axs) (S : TS) (l : List T) : tFieldAddr (EE ax) S 29 0 (.cp l) = some (.cp (l.drop 0)) := by kernel_rfl
theorem fld29_1 (ax : Axs) (l : List T) : tField (EE ax) 29 1 (.agg l) = l[1]? := by kernel_rfl
theorem fa29_1 (ax : Axs) (S : TS) (b off N : Nat) : tFieldAddr (EE ax) S 29 1 (.ptr b off N) = bif S.has b N then some (.ptr b (off + 1) N) else none := by kernel_rfl
theorem fc29_1 (ax : Axs) (S : TS) (l : List T) : tFieldAddr (EE ax) S 29 1 (.cp l) = some (.cp (l.drop 1)) := by kernel_rfl
noncomputable def fs29 : Array Field := match Try.prog.underlying 29 with | some (.struct fs) => fs | _ => #[]
theorem bt29 (ax : Axs) (ρ : Operand → T) (parts : List (Nat × Operand)) : tBuild (EE ax) ρ 29 parts = aggO (buildT [.slice none 0 0, .int .i64 0] (partsT (placeS (EE ax) fs29) ρ parts)) := by kernel_rfl
theorem ti29 (ax : Axs) : (EE ax).ti.at 29 = some ⟨.struct fs29, 2, 32, [.slice none 0 0, .int .i64 0]⟩ := by kernel_rfl
theorem pl29_0 (ax : Axs) : placeS (EE ax) fs29 0 = some (0, 1) := by kernel_rfl
theorem pl29_1 (ax : Axs) : placeS (EE ax) fs29 1 = some (1, 1) := by kernel_rfl
theorem ti30 (ax : Axs) : (EE ax).ti.at 30 = some ⟨.slice 41, 1, 24, [.slice none 0 0]⟩ := by kernel_rfl
theorem sr30 (ax : Axs) : srcT (EE ax) 30 = true := by kernel_rfl
theorem fld40_0 (ax : Axs) (l : List T) : tField (EE ax) 40 0 (.agg l) = l[0]? := by kernel_rfl
theorem fa40_0 (ax : Axs) (S : TS) (b off N : Nat) : tFieldAddr (EE ax) S 40 0 (.ptr b off N) = bif S.has b N then some (.ptr b (off + 0) N) else none := by kernel_rfl
theorem fc40_0 (ax : Axs) (S : TS) (l : List T) : tFieldAddr (EE ax) S 40 0 (.cp l) = some (.cp (l.drop 0)) := by kernel_rfl
theorem fld40_1 (ax : Axs) (l : List T) : tField (EE ax) 40 1 (.agg l) = l[1]? := by kernel_rfl
theorem fa40_1 (ax : Axs) (S : TS) (b off N : Nat) : tFieldAddr (EE ax) S 40 1 (.ptr b off N) = bif S.has b N then some (.ptr b (off + 1) N) else none := by kernel_rfl
theorem fc40_1 (ax : Axs) (S : TS) (l : List T) : tFieldAddr (EE ax) S 40 1 (.cp l) = some (.cp (l.drop 1)) := by kernel_rfl
noncomputable def fs40 : Array Field := match Try.prog.underlying 40 with | some (.struct fs) => fs | _ => #[]
theorem bt40 (ax : Axs) (ρ : Operand → T) (parts : List (Nat × Operand)) : tBuild (EE ax) ρ 40 parts = aggO (buildT [.slice none 0 0, .int .i64 0] (partsT (placeS (EE ax) fs40) ρ parts)) := by kernel_rfl
theorem ti40 (ax : Axs) : (EE ax).ti.at 40 = some ⟨.struct fs40, 2, 32, [.slice none 0 0, .int .i64 0]⟩ := by kernel_rfl
theorem pl40_0 (ax : Axs) : placeS (EE ax) fs40 0 = some (0, 1) := by kernel_rfl
theorem pl40_1 (ax : Axs) : placeS (EE ax) fs40 1 = some (1, 1) := by kernel_rfl
theorem fld41_0 (ax : Axs) (l : List T) : tField (EE ax) 41 0 (.agg l) = l[0]? := by kernel_rfl
theorem fa41_0 (ax : Axs) (S : TS) (b off N : Nat) : tFieldAddr (EE ax) S 41 0 (.ptr b off N) = bif S.has b N then some (.ptr b (off + 0) N) else none := by kernel_rfl
theorem fc41_0 (ax : Axs) (S : TS) (l : List T) : tFieldAddr (EE ax) S 41 0 (.cp l) = some (.cp (l.drop 0)) := by kernel_rfl
theorem fld41_1 (ax : Axs) (l : List T) : tField (EE ax) 41 1 (.agg l) = l[1]? := by kernel_rfl
theorem fa41_1 (ax : Axs) (S : TS) (b off N : Nat) : tFieldAddr (EE ax) S 41 1 (.ptr b off N) = bif S.has b N then some (.ptr b (off + 1) N) else none := by kernel_rfl
theorem fc41_1 (ax : Axs) (S : TS) (l : List T) : tFieldAddr (EE ax) S 41 1 (.cp l) = some (.cp (l.drop 1)) := by kernel_rfl
noncomputable def fs41 : Array Field := match Try.prog.underlying 41 with | some (.struct fs) => fs | _ => #[]
theorem bt41 (ax : Axs) (ρ : Operand → T) (parts : List (Nat × Operand)) : tBuild (EE ax) ρ 41 parts = aggO (buildT [.slice none 0 0, .int .i64 0] (partsT (placeS (EE ax) fs41) ρ parts)) := by kernel_rfl
theorem ti41 (ax : Axs) : (EE ax).ti.at 41 = some ⟨.struct fs41, 2, 32, [.slice none 0 0, .int .i64 0]⟩ := by kernel_rfl
theorem pl41_0 (ax : Axs) : placeS (EE ax) fs41 0 = some (0, 1) := by kernel_rfl
theorem pl41_1 (ax : Axs) : placeS (EE ax) fs41 1 = some (1, 1) := by kernel_rfl
theorem ti44 (ax : Axs) : (EE ax).ti.at 44 = some ⟨.int .i64, 1, 8, [.int .i64 0]⟩ := by kernel_rfl
theorem ti48 (ax : Axs) : (EE ax).ti.at 48 = some ⟨.map 3 4, 1, 8, [.map none]⟩ := by kernel_rfl
theorem fld50_0 (ax : Axs) (l : List T) : tField (EE ax) 50 0 (.agg l) = l[0]? := by kernel_rfl
theorem fa50_0 (ax : Axs) (S : TS) (b off N : Nat) : tFieldAddr (EE ax) S 50 0 (.ptr b off N) = bif S.has b N then some (.ptr b (off + 0) N) else none := by kernel_rfl
theorem fc50_0 (ax : Axs) (S : TS) (l : List T) : tFieldAddr (EE ax) S 50 0 (.cp l) = some (.cp (l.drop 0)) := by kernel_rfl
theorem fld50_1 (ax : Axs) (l : List T) : tField (EE ax) 50 1 (.agg l) = l[1]? := by kernel_rfl
theorem fa50_1 (ax : Axs) (S : TS) (b off N : Nat) : tFieldAddr (EE ax) S 50 1 (.ptr b off N) = bif S.has b N then some (.ptr b (off + 1) N) else none := by kernel_rfl
theorem fc50_1 (ax : Axs) (S : TS) (l : List T) : tFieldAddr (EE ax) S 50 1 (.cp l) = some (.cp (l.drop 1)) := by kernel_rfl
theorem fld50_2 (ax : Axs) (l : List T) : tField (EE ax) 50 2 (.agg l) = l[2]? := by kernel_rfl
theorem fa50_2 (ax : Axs) (S : TS) (b off N : Nat) : tFieldAddr (EE ax) S 50 2 (.ptr b off N) = bif S.has b N then some (.ptr b (off + 2) N) else none := by kernel_rfl
theorem fc50_2 (ax : Axs) (S : TS) (l : List T) : tFieldAddr (EE ax) S 50 2 (.cp l) = some (.cp (l.drop 2)) := by kernel_rfl
noncomputable def fs50 : Array Field := match Try.prog.underlying 50 with | some (.struct fs) => fs | _ => #[]
theorem bt50 (ax : Axs) (ρ : Operand → T) (parts : List (Nat × Operand)) : tBuild (EE ax) ρ 50 parts = aggO (buildT [.int .i64 0, .int .i64 0, .int .i64 0] (partsT (placeS (EE ax) fs50) ρ parts)) := by kernel_rfl
theorem ti50 (ax : Axs) : (EE ax).ti.at 50 = some ⟨.struct fs50, 3, 24, [.int .i64 0, .int .i64 0, .int .i64 0]⟩ := by kernel_rfl
theorem pl50_0 (ax : Axs) : placeS (EE ax) fs50 0 = some (0, 1) := by kernel_rfl
theorem pl50_1 (ax : Axs) : placeS (EE ax) fs50 1 = some (1, 1) := by kernel_rfl
theorem pl50_2 (ax : Axs) : placeS (EE ax) fs50 2 = some (2, 1) := by kernel_rfl
theorem fld51_0 (ax : Axs) (l : List T) : tField (EE ax) 51 0 (.agg l) = l[0]? := by kernel_rfl
theorem fa51_0 (ax : Axs) (S : TS) (b off N : Nat) : tFieldAddr (EE ax) S 51 0 (.ptr b off N) = bif S.has b N then some (.ptr b (off + 0) N) else none := by kernel_rfl
theorem fc51_0 (ax : Axs) (S : TS) (l : List T) : tFieldAddr (EE ax) S 51 0 (.cp l) = some (.cp (l.drop 0)) := by kernel_rfl
theorem fld51_1 (ax : Axs) (l : List T) : tField (EE ax) 51 1 (.agg l) = l[1]? := by kernel_rfl
theorem fa51_1 (ax : Axs) (S : TS) (b off N : Nat) : tFieldAddr (EE ax) S 51 1 (.ptr b off N) = bif S.has b N then some (.ptr b (off + 1) N) else none := by kernel_rfl
theorem fc51_1 (ax : Axs) (S : TS) (l : List T) : tFieldAddr (EE ax) S 51 1 (.cp l) = some (.cp (l.drop 1)) := by kernel_rfl
theorem fld51_2 (ax : Axs) (l : List T) : tField (EE ax) 51 2 (.agg l) = l[2]? := by kernel_rfl
theorem fa51_2 (ax : Axs) (S : TS) (b off N : Nat) : tFieldAddr (EE ax) S 51 2 (.ptr b off N) = bif S.has b N then some (.ptr b (off + 2) N) else none := by kernel_rfl
theorem fc51_2 (ax : Axs) (S : TS) (l : List T) : tFieldAddr (EE ax) S 51 2 (.cp l) = some (.cp (l.drop 2)) := by kernel_rfl
noncomputable def fs51 : Array Field := match Try.prog.underlying 51 with | some (.struct fs) => fs | _ => #[]
theorem bt51 (ax : Axs) (ρ : Operand → T) (parts : List (Nat × Operand)) : tBuild (EE ax) ρ 51 parts = aggO (buildT [.int .i64 0, .int .i64 0, .int .i64 0] (partsT (placeS (EE ax) fs51) ρ parts)) := by kernel_rfl
theorem ti51 (ax : Axs) : (EE ax).ti.at 51 = some ⟨.struct fs51, 3, 24, [.int .i64 0, .int .i64 0, .int .i64 0]⟩ := by kernel_rfl
theorem pl51_0 (ax : Axs) : placeS (EE ax) fs51 0 = some (0, 1) := by kernel_rfl
theorem pl51_1 (ax : Axs) : placeS (EE ax) fs51 1 = some (1, 1) := by kernel_rfl
theorem pl51_2 (ax : Axs) : placeS (EE ax) fs51 2 = some (2, 1) := by kernel_rfl
theorem ti69 (ax : Axs) : (EE ax).ti.at 69 = some ⟨.slice 105, 1, 24, [.slice none 0 0]⟩ := by kernel_rfl
theorem sr69 (ax : Axs) : srcT (EE ax) 69 = true := by kernel_rfl
theorem ti70 (ax : Axs) : (EE ax).ti.at 70 = some ⟨.slice 4, 1, 24, [.slice none 0 0]⟩ := by kernel_rfl
theorem sr70 (ax : Axs) : srcT (EE ax) 70 = true := by kernel_rfl
noncomputable def fs74 : Array Field := match Try.prog.underlying 74 with | some (.struct fs) => fs | _ => #[]
theorem bt74 (ax : Axs) (ρ : Operand → T) (parts : List (Nat × Operand)) : tBuild (EE ax) ρ 74 parts = aggO (buildT [] (partsT (placeS (EE ax) fs74) ρ parts)) := by kernel_rfl
theorem ti74 (ax : Axs) : (EE ax).ti.at 74 = some ⟨.struct fs74, 0, 0, []⟩ := by kernel_rfl
theorem ti75 (ax : Axs) : (EE ax).ti.at 75 = some ⟨.slice 78, 1, 24, [.slice none 0 0]⟩ := by kernel_rfl
theorem sr75 (ax : Axs) : srcT (EE ax) 75 = true := by kernel_rfl
theorem fld77_0 (ax : Axs) (l : List T) : tField (EE ax) 77 0 (.agg l) = l[0]? := by kernel_rfl
theorem fa77_0 (ax : Axs) (S : TS) (b off N : Nat) : tFieldAddr (EE ax) S 77 0 (.ptr b off N) = bif S.has b N then some (.ptr b (off + 0) N) else none := by kernel_rfl
theorem fc77_0 (ax : Axs) (S : TS) (l : List T) : tFieldAddr (EE ax) S 77 0 (.cp l) = some (.cp (l.drop 0)) := by kernel_rfl
theorem fld77_1 (ax : Axs) (l : List T) : tField (EE ax) 77 1 (.agg l) = l[1]? := by kernel_rfl
theorem fa77_1 (ax : Axs) (S : TS) (b off N : Nat) : tFieldAddr (EE ax) S 77 1 (.ptr b off N) = bif S.has b N then some (.ptr b (off + 1) N) else none := by kernel_rfl
theorem fc77_1 (ax : Axs) (S : TS) (l : List T) : tFieldAddr (EE ax) S 77 1 (.cp l) = some (.cp (l.drop 1)) := by kernel_rfl
theorem fld77_2 (ax : Axs) (l : List T) : tField (EE ax) 77 2 (.agg l) = l[2]? := by kernel_rfl
theorem fa77_2 (ax : Axs) (S : TS) (b off N : Nat) : tFieldAddr (EE ax) S 77 2 (.ptr b off N) = bif S.has b N then some (.ptr b (off + 2) N) else none := by kernel_rfl
theorem fc77_2 (ax : Axs) (S : TS) (l : List T) : tFieldAddr (EE ax) S 77 2 (.cp l) = some (.cp (l.drop 2)) := by kernel_rfl
theorem fld77_3 (ax : Axs) (l : List T) : tField (EE ax) 77 3 (.agg l) = l[3]? := by kernel_rfl
theorem fa77_3 (ax : Axs) (S : TS) (b off N : Nat) : tFieldAddr (EE ax) S 77 3 (.ptr b off N) = bif S.has b N then some (.ptr b (off + 3) N) else none := by kernel_rfl
theorem fc77_3 (ax : Axs) (S : TS) (l : List T) : tFieldAddr (EE ax) S 77 3 (.cp l) = some (.cp (l.drop 3)) := by kernel_rfl
noncomputable def fs77 : Array Field := match Try.prog.underlying 77 with | some (.struct fs) => fs | _ => #[]
theorem bt77 (ax : Axs) (ρ : Operand → T) (parts : List (Nat × Operand)) : tBuild (EE ax) ρ 77 parts = aggO (buildT [.int .i64 0, .int .i64 0, .int .i64 0, .bool false] (partsT (placeS (EE ax) fs77) ρ parts)) := by kernel_rfl
theorem ti77 (ax : Axs) : (EE ax).ti.at 77 = some ⟨.struct fs77, 4, 32, [.int .i64 0, .int .i64 0, .int .i64 0, .bool false]⟩ := by kernel_rfl
theorem pl77_0 (ax : Axs) : placeS (EE ax) fs77 0 = some (0, 1) := by kernel_rfl
theorem pl77_1 (ax : Axs) : placeS (EE ax) fs77 1 = some (1, 1) := by kernel_rfl
theorem pl77_2 (ax : Axs) : placeS (EE ax) fs77 2 = some (2, 1) := by kernel_rfl
theorem pl77_3 (ax : Axs) : placeS (EE ax) fs77 3 = some (3, 1) := by kernel_rfl
theorem fld78_0 (ax : Axs) (l : List T) : tField (EE ax) 78 0 (.agg l) = l[0]? := by kernel_rfl
theorem fa78_0 (ax : Axs) (S : TS) (b off N : Nat) : tFieldAddr (EE ax) S 78 0 (.ptr b off N) = bif S.has b N then some (.ptr b (off + 0) N) else none := by kernel_rfl
theorem fc78_0 (ax : Axs) (S : TS) (l : List T) : tFieldAddr (EE ax) S 78 0 (.cp l) = some (.cp (l.drop 0)) := by kernel_rfl
theorem fld78_1 (ax : Axs) (l : List T) : tField (EE ax) 78 1 (.agg l) = l[1]? := by kernel_rfl
theorem fa78_1 (ax : Axs) (S : TS) (b off N : Nat) : tFieldAddr (EE ax) S 78 1 (.ptr b off N) = bif S.has b N then some (.ptr b (off + 1) N) else none := by kernel_rfl
theorem fc78_1 (ax : Axs) (S : TS) (l : List T) : tFieldAddr (EE ax) S 78 1 (.cp l) = some (.cp (l.drop 1)) := by kernel_rfl
theorem fld78_2 (ax : Axs) (l : List T) : tField (EE ax) 78 2 (.agg l) = l[2]? := by kernel_rfl
theorem fa78_2 (ax : Axs) (S : TS) (b off N : Nat) : tFieldAddr (EE ax) S 78 2 (.ptr b off N) = bif S.has b N then some (.ptr b (off + 2) N) else none := by kernel_rfl
theorem fc78_2 (ax : Axs) (S : TS) (l : List T) : tFieldAddr (EE ax) S 78 2 (.cp l) = some (.cp (l.drop 2)) := by kernel_rfl
theorem fld78_3 (ax : Axs) (l : List T) : tField (EE ax) 78 3 (.agg l) = l[3]? := by kernel_rfl
theorem fa78_3 (ax : Axs) (S : TS) (b off N : Nat) : tFieldAddr (EE ax) S 78 3 (.ptr b off N) = bif S.has b N then some (.ptr b (off + 3) N) else none := by kernel_rfl
theorem fc78_3 (ax : Axs) (S : TS) (l : List T) : tFieldAddr (EE ax) S 78 3 (.cp l) = some (.cp (l.drop 3)) := by kernel_rfl
noncomputable def fs78 : Array Field := match Try.prog.underlying 78 with | some (.struct fs) => fs | _ => #[]
theorem bt78 (ax : Axs) (ρ : Operand → T) (parts : List (Nat × Operand)) : tBuild (EE ax) ρ 78 parts = aggO (buildT [.int .i64 0, .int .i64 0, .int .i64 0, .bool false] (partsT (placeS (EE ax) fs78) ρ parts)) := by kernel_rfl
theorem ti78 (ax : Axs) : (EE ax).ti.at 78 = some ⟨.struct fs78, 4, 32, [.int .i64 0, .int .i64 0, .int .i64 0, .bool false]⟩ := by kernel_rfl
theorem pl78_0 (ax : Axs) : placeS (EE ax) fs78 0 = some (0, 1) := by kernel_rfl
theorem pl78_1 (ax : Axs) : placeS (EE ax) fs78 1 = some (1, 1) := by kernel_rfl
theorem pl78_2 (ax : Axs) : placeS (EE ax) fs78 2 = some (2, 1) := by kernel_rfl
theorem pl78_3 (ax : Axs) : placeS (EE ax) fs78 3 = some (3, 1) := by kernel_rfl
theorem ti84 (ax : Axs) : (EE ax).ti.at 84 = some ⟨.map 3 3, 1, 8, [.map none]⟩ := by kernel_rfl
theorem ti86 (ax : Axs) : (EE ax).ti.at 86 = some ⟨.slice 111, 1, 24, [.slice none 0 0]⟩ := by kernel_rfl
theorem sr86 (ax : Axs) : srcT (EE ax) 86 = true := by kernel_rfl
theorem ti89 (ax : Axs) : (EE ax).ti.at 89 = some ⟨.slice 113, 1, 24, [.slice none 0 0]⟩ := by kernel_rfl
theorem sr89 (ax : Axs) : srcT (EE ax) 89 = true := by kernel_rfl
theorem ti93 (ax : Axs) : (EE ax).ti.at 93 = some ⟨.slice 9, 1, 24, [.slice none 0 0]⟩ := by kernel_rfl
theorem sr93 (ax : Axs) : srcT (EE ax) 93 = true := by kernel_rfl
theorem fld97_0 (ax : Axs) (l : List T) : tField (EE ax) 97 0 (.agg l) = l[0]? := by kernel_rfl
theorem fa97_0 (ax : Axs) (S : TS) (b off N : Nat) : tFieldAddr (EE ax) S 97 0 (.ptr b off N) = bif S.has b N then some (.ptr b (off + 0) N) else none := by kernel_rfl
theorem fc97_0 (ax : Axs) (S : TS) (l : List T) : tFieldAddr (EE ax) S 97 0 (.cp l) = some (.cp (l.drop 0)) := by kernel_rfl
theorem fld97_1 (ax : Axs) (l : List T) : tField (EE ax) 97 1 (.agg l) = l[1]? := by kernel_rfl
theorem fa97_1 (ax : Axs) (S : TS) (b off N : Nat) : tFieldAddr (EE ax) S 97 1 (.ptr b off N) = bif S.has b N then some (.ptr b (off + 1) N) else none := by kernel_rfl
theorem fc97_1 (ax : Axs) (S : TS) (l : List T) : tFieldAddr (EE ax) S 97 1 (.cp l) = some (.cp (l.drop 1)) := by kernel_rfl
theorem fld97_2 (ax : Axs) (l : List T) : tField (EE ax) 97 2 (.agg l) = l[2]? := by kernel_rfl
theorem fa97_2 (ax : Axs) (S : TS) (b off N : Nat) : tFieldAddr (EE ax) S 97 2 (.ptr b off N) = bif S.has b N then some (.ptr b (off + 2) N) else none := by kernel_rfl
theorem fc97_2 (ax : Axs) (S : TS) (l : List T) : tFieldAddr (EE ax) S 97 2 (.cp l) = some (.cp (l.drop 2)) := by kernel_rfl
theorem fld97_3 (ax : Axs) (l : List T) : tField (EE ax) 97 3 (.agg l) = l[3]? := by kernel_rfl
theorem fa97_3 (ax : Axs) (S : TS) (b off N : Nat) : tFieldAddr (EE ax) S 97 3 (.ptr b off N) = bif S.has b N then some (.ptr b (off + 3) N) else none := by kernel_rfl
theorem fc97_3 (ax : Axs) (S : TS) (l : List T) : tFieldAddr (EE ax) S 97 3 (.cp l) = some (.cp (l.drop 3)) := by kernel_rfl
noncomputable def fs97 : Array Field := match Try.prog.underlying 97 with | some (.struct fs) => fs | _ => #[]
theorem bt97 (ax : Axs) (ρ : Operand → T) (parts : List (Nat × Operand)) : tBuild (EE ax) ρ 97 parts = aggO (buildT [.string ⟨#[]⟩, .bool false, .int .i64 0, .int .i64 0] (partsT (placeS (EE ax) fs97) ρ parts)) := by kernel_rfl
theorem ti97 (ax : Axs) : (EE ax).ti.at 97 = some ⟨.struct fs97, 4, 40, [.string ⟨#[]⟩, .bool false, .int .i64 0, .int .i64 0]⟩ := by kernel_rfl
theorem pl97_0 (ax : Axs) : placeS (EE ax) fs97 0 = some (0, 1) := by kernel_rfl
theorem pl97_1 (ax : Axs) : placeS (EE ax) fs97 1 = some (1, 1) := by kernel_rfl
theorem pl97_2 (ax : Axs) : placeS (EE ax) fs97 2 = some (2, 1) := by kernel_rfl
theorem pl97_3 (ax : Axs) : placeS (EE ax) fs97 3 = some (3, 1) := by kernel_rfl
theorem fld98_0 (ax : Axs) (l : List T) : tField (EE ax) 98 0 (.agg l) = l[0]? := by kernel_rfl
theorem fa98_0 (ax : Axs) (S : TS) (b off N : Nat) : tFieldAddr (EE ax) S 98 0 (.ptr b off N) = bif S.has b N then some (.ptr b (off + 0) N) else none := by kernel_rfl
theorem fc98_0 (ax : Axs) (S : TS) (l : List T) : tFieldAddr (EE ax) S 98 0 (.cp l) = some (.cp (l.drop 0)) := by kernel_rfl
theorem fld98_1 (ax : Axs) (l : List T) : tField (EE ax) 98 1 (.agg l) = l[1]? := by kernel_rfl
theorem fa98_1 (ax : Axs) (S : TS) (b off N : Nat) : tFieldAddr (EE ax) S 98 1 (.ptr b off N) = bif S.has b N then some (.ptr b (off + 1) N) else none := by kernel_rfl
theorem fc98_1 (ax : Axs) (S : TS) (l : List T) : tFieldAddr (EE ax) S 98 1 (.cp l) = some (.cp (l.drop 1)) := by kernel_rfl
theorem fld98_2 (ax : Axs) (l : List T) : tField (EE ax) 98 2 (.agg l) = l[2]? := by kernel_rfl
theorem fa98_2 (ax : Axs) (S : TS) (b off N : Nat) : tFieldAddr (EE ax) S 98 2 (.ptr b off N) = bif S.has b N then some (.ptr b (off + 2) N) else none := by kernel_rfl
theorem fc98_2 (ax : Axs) (S : TS) (l : List T) : tFieldAddr (EE ax) S 98 2 (.cp l) = some (.cp (l.drop 2)) := by kernel_rfl
theorem fld98_3 (ax : Axs) (l : List T) : tField (EE ax) 98 3 (.agg l) = l[3]? := by kernel_rfl
theorem fa98_3 (ax : Axs) (S : TS) (b off N : Nat) : tFieldAddr (EE ax) S 98 3 (.ptr b off N) = bif S.has b N then some (.ptr b (off + 3) N) else none := by kernel_rfl
theorem fc98_3 (ax : Axs) (S : TS) (l : List T) : tFieldAddr (EE ax) S 98 3 (.cp l) = some (.cp (l.drop 3)) := by kernel_rfl
noncomputable def fs98 : Array Field := match Try.prog.underlying 98 with | some (.struct fs) => fs | _ => #[]
theorem bt98 (ax : Axs) (ρ : Operand → T) (parts : List (Nat × Operand)) : tBuild (EE ax) ρ 98 parts = aggO (buildT [.string ⟨#[]⟩, .bool false, .int .i64 0, .int .i64 0] (partsT (placeS (EE ax) fs98) ρ parts)) := by kernel_rfl
theorem ti98 (ax : Axs) : (EE ax).ti.at 98 = some ⟨.struct fs98, 4, 40, [.string ⟨#[]⟩, .bool false, .int .i64 0, .int .i64 0]⟩ := by kernel_rfl
theorem pl98_0 (ax : Axs) : placeS (EE ax) fs98 0 = some (0, 1) := by kernel_rfl
theorem pl98_1 (ax : Axs) : placeS (EE ax) fs98 1 = some (1, 1) := by kernel_rfl
theorem pl98_2 (ax : Axs) : placeS (EE ax) fs98 2 = some (2, 1) := by kernel_rfl
theorem pl98_3 (ax : Axs) : placeS (EE ax) fs98 3 = some (3, 1) := by kernel_rfl
theorem fld99_0 (ax : Axs) (l : List T) : tField (EE ax) 99 0 (.agg l) = l[0]? := by kernel_rfl
theorem fa99_0 (ax : Axs) (S : TS) (b off N : Nat) : tFieldAddr (EE ax) S 99 0 (.ptr b off N) = bif S.has b N then some (.ptr b (off + 0) N) else none := by kernel_rfl
theorem fc99_0 (ax : Axs) (S : TS) (l : List T) : tFieldAddr (EE ax) S 99 0 (.cp l) = some (.cp (l.drop 0)) := by kernel_rfl
theorem fld99_1 (ax : Axs) (l : List T) : tField (EE ax) 99 1 (.agg l) = l[1]? := by kernel_rfl
theorem fa99_1 (ax : Axs) (S : TS) (b off N : Nat) : tFieldAddr (EE ax) S 99 1 (.ptr b off N) = bif S.has b N then some (.ptr b (off + 1) N) else none := by kernel_rfl
theorem fc99_1 (ax : Axs) (S : TS) (l : List T) : tFieldAddr (EE ax) S 99 1 (.cp l) = some (.cp (l.drop 1)) := by kernel_rfl
noncomputable def fs99 : Array Field := match Try.prog.underlying 99 with | some (.struct fs) => fs | _ => #[]
theorem bt99 (ax : Axs) (ρ : Operand → T) (parts : List (Nat × Operand)) : tBuild (EE ax) ρ 99 parts = aggO (buildT [.string ⟨#[]⟩, .int .i64 0] (partsT (placeS (EE ax) fs99) ρ parts)) := by kernel_rfl
theorem ti99 (ax : Axs) : (EE ax).ti.at 99 = some ⟨.struct fs99, 2, 24, [.string ⟨#[]⟩, .int .i64 0]⟩ := by kernel_rfl
theorem pl99_0 (ax : Axs) : placeS (EE ax) fs99 0 = some (0, 1) := by kernel_rfl
theorem pl99_1 (ax : Axs) : placeS (EE ax) fs99 1 = some (1, 1) := by kernel_rfl
theorem fld100_0 (ax : Axs) (l : List T) : tField (EE ax) 100 0 (.agg l) = l[0]? := by kernel_rfl
theorem fa100_0 (ax : Axs) (S : TS) (b off N : Nat) : tFieldAddr (EE ax) S 100 0 (.ptr b off N) = bif S.has b N then some (.ptr b (off + 0) N) else none := by kernel_rfl
theorem fc100_0 (ax : Axs) (S : TS) (l : List T) : tFieldAddr (EE ax) S 100 0 (.cp l) = some (.cp (l.drop 0)) := by kernel_rfl
theorem fld100_1 (ax : Axs) (l : List T) : tField (EE ax) 100 1 (.agg l) = l[1]? := by kernel_rfl
theorem fa100_1 (ax : Axs) (S : TS) (b off N : Nat) : tFieldAddr (EE ax) S 100 1 (.ptr b off N) = bif S.has b N then some (.ptr b (off + 1) N) else none := by kernel_rfl
theorem fc100_1 (ax : Axs) (S : TS) (l : List T) : tFieldAddr (EE ax) S 100 1 (.cp l) = some (.cp (l.drop 1)) := by kernel_rfl
noncomputable def fs100 : Array Field := match Try.prog.underlying 100 with | some (.struct fs) => fs | _ => #[]
theorem bt100 (ax : Axs) (ρ : Operand → T) (parts : List (Nat × Operand)) : tBuild (EE ax) ρ 100 parts = aggO (buildT [.string ⟨#[]⟩, .int .i64 0] (partsT (placeS (EE ax) fs100) ρ parts)) := by kernel_rfl
theorem ti100 (ax : Axs) : (EE ax).ti.at 100 = some ⟨.struct fs100, 2, 24, [.string ⟨#[]⟩, .int .i64 0]⟩ := by kernel_rfl
theorem pl100_0 (ax : Axs) : placeS (EE ax) fs100 0 = some (0, 1) := by kernel_rfl
theorem pl100_1 (ax : Axs) : placeS (EE ax) fs100 1 = some (1, 1) := by kernel_rfl
theorem ti101 (ax : Axs) : (EE ax).ti.at 101 = some ⟨.slice 5, 1, 24, [.slice none 0 0]⟩ := by kernel_rfl
theorem sr101 (ax : Axs) : srcT (EE ax) 101 = true := by kernel_rfl
theorem ti102 (ax : Axs) : (EE ax).ti.at 102 = some ⟨.slice 107, 1, 24, [.slice none 0 0]⟩ := by kernel_rfl
theorem sr102 (ax : Axs) : srcT (EE ax) 102 = true := by kernel_rfl
theorem ti105 (ax : Axs) : (EE ax).ti.at 105 = some ⟨.pointer 107, 1, 8, [.pointer none]⟩ := by kernel_rfl
theorem fld106_0 (ax : Axs) (l : List T) : tField (EE ax) 106 0 (.agg l) = l[0]? := by kernel_rfl
theorem fa106_0 (ax : Axs) (S : TS) (b off N : Nat) : tFieldAddr (EE ax) S 106 0 (.ptr b off N) = bif S.has b N then some (.ptr b (off + 0) N) else none := by kernel_rfl
theorem fc106_0 (ax : Axs) (S : TS) (l : List T) : tFieldAddr (EE ax) S 106 0 (.cp l) = some (.cp (l.drop 0)) := by kernel_rfl
theorem fld106_1 (ax : Axs) (l : List T) : tField (EE ax) 106 1 (.agg l) = l[1]? := by kernel_rfl
theorem fa106_1 (ax : Axs) (S : TS) (b off N : Nat) : tFieldAddr (EE ax) S 106 1 (.ptr b off N) = bif S.has b N then some (.ptr b (off + 1) N) else none := by kernel_rfl
theorem fc106_1 (ax : Axs) (S : TS) (l : List T) : tFieldAddr (EE ax) S 106 1 (.cp l) = some (.cp (l.drop 1)) := by kernel_rfl
theorem fld106_2 (ax : Axs) (l : List T) : tField (EE ax) 106 2 (.agg l) = l[2]? := by kernel_rfl
theorem fa106_2 (ax : Axs) (S : TS) (b off N : Nat) : tFieldAddr (EE ax) S 106 2 (.ptr b off N) = bif S.has b N then some (.ptr b (off + 2) N) else none := by kernel_rfl
theorem fc106_2 (ax : Axs) (S : TS) (l : List T) : tFieldAddr (EE ax) S 106 2 (.cp l) = some (.cp (l.drop 2)) := by kernel_rfl
theorem fld106_3 (ax : Axs) (l : List T) : tField (EE ax) 106 3 (.agg l) = l[3]? := by kernel_rfl
theorem fa106_3 (ax : Axs) (S : TS) (b off N : Nat) : tFieldAddr (EE ax) S 106 3 (.ptr b off N) = bif S.has b N then some (.ptr b (off + 3) N) else none := by kernel_rfl
theorem fc106_3 (ax : Axs) (S : TS) (l : List T) : tFieldAddr (EE ax) S 106 3 (.cp l) = some (.cp (l.drop 3)) := by kernel_rfl
theorem fld106_4 (ax : Axs) (l : List T) : tField (EE ax) 106 4 (.agg l) = l[4]? := by kernel_rfl
theorem fa106_4 (ax : Axs) (S : TS) (b off N : Nat) : tFieldAddr (EE ax) S 106 4 (.ptr b off N) = bif S.has b N then some (.ptr b (off + 4) N) else none := by kernel_rfl
theorem fc106_4 (ax : Axs) (S : TS) (l : List T) : tFieldAddr (EE ax) S 106 4 (.cp l) = some (.cp (l.drop 4)) := by kernel_rfl
theorem fld106_5 (ax : Axs) (l : List T) : tField (EE ax) 106 5 (.agg l) = bif Nat.ble (5 + 0) l.length then some (.agg ((l.drop 5).take 0)) else none := by kernel_rfl
noncomputable def fs106 : Array Field := match Try.prog.underlying 106 with | some (.struct fs) => fs | _ => #[]
theorem bt106 (ax : Axs) (ρ : Operand → T) (parts : List (Nat × Operand)) : tBuild (EE ax) ρ 106 parts = aggO (buildT [.int .i64 0, .int .i64 0, .int .i64 0, .int .i64 0, .bool false] (partsT (placeS (EE ax) fs106) ρ parts)) := by kernel_rfl
theorem ti106 (ax : Axs) : (EE ax).ti.at 106 = some ⟨.struct fs106, 5, 40, [.int .i64 0, .int .i64 0, .int .i64 0, .int .i64 0, .bool false]⟩ := by kernel_rfl
theorem pl106_0 (ax : Axs) : placeS (EE ax) fs106 0 = some (0, 1) := by kernel_rfl
theorem pl106_1 (ax : Axs) : placeS (EE ax) fs106 1 = some (1, 1) := by kernel_rfl
theorem pl106_2 (ax : Axs) : placeS (EE ax) fs106 2 = some (2, 1) := by kernel_rfl
theorem pl106_3 (ax : Axs) : placeS (EE ax) fs106 3 = some (3, 1) := by kernel_rfl
theorem pl106_4 (ax : Axs) : placeS (EE ax) fs106 4 = some (4, 1) := by kernel_rfl
theorem pl106_5 (ax : Axs) : placeS (EE ax) fs106 5 = some (5, 0) := by kernel_rfl
theorem fld107_0 (ax : Axs) (l : List T) : tField (EE ax) 107 0 (.agg l) = l[0]? := by kernel_rfl
theorem fa107_0 (ax : Axs) (S : TS) (b off N : Nat) : tFieldAddr (EE ax) S 107 0 (.ptr b off N) = bif S.has b N then some (.ptr b (off + 0) N) else none := by kernel_rfl
theorem fc107_0 (ax : Axs) (S : TS) (l : List T) : tFieldAddr (EE ax) S 107 0 (.cp l) = some (.cp (l.drop 0)) := by kernel_rfl
theorem fld107_1 (ax : Axs) (l : List T) : tField (EE ax) 107 1 (.agg l) = l[1]? := by kernel_rfl
theorem fa107_1 (ax : Axs) (S : TS) (b off N : Nat) : tFieldAddr (EE ax) S 107 1 (.ptr b off N) = bif S.has b N then some (.ptr b (off + 1) N) else none := by kernel_rfl
theorem fc107_1 (ax : Axs) (S : TS) (l : List T) : tFieldAddr (EE ax) S 107 1 (.cp l) = some (.cp (l.drop 1)) := by kernel_rfl
theorem fld107_2 (ax : Axs) (l : List T) : tField (EE ax) 107 2 (.agg l) = l[2]? := by kernel_rfl
theorem fa107_2 (ax : Axs) (S : TS) (b off N : Nat) : tFieldAddr (EE ax) S 107 2 (.ptr b off N) = bif S.has b N then some (.ptr b (off + 2) N) else none := by kernel_rfl
theorem fc107_2 (ax : Axs) (S : TS) (l : List T) : tFieldAddr (EE ax) S 107 2 (.cp l) = some (.cp (l.drop 2)) := by kernel_rfl
theorem fld107_3 (ax : Axs) (l : List T) : tField (EE ax) 107 3 (.agg l) = l[3]? := by kernel_rfl
theorem fa107_3 (ax : Axs) (S : TS) (b off N : Nat) : tFieldAddr (EE ax) S 107 3 (.ptr b off N) = bif S.has b N then some (.ptr b (off + 3) N) else none := by kernel_rfl
theorem fc107_3 (ax : Axs) (S : TS) (l : List T) : tFieldAddr (EE ax) S 107 3 (.cp l) = some (.cp (l.drop 3)) := by kernel_rfl
theorem fld107_4 (ax : Axs) (l : List T) : tField (EE ax) 107 4 (.agg l) = l[4]? := by kernel_rfl
theorem fa107_4 (ax : Axs) (S : TS) (b off N : Nat) : tFieldAddr (EE ax) S 107 4 (.ptr b off N) = bif S.has b N then some (.ptr b (off + 4) N) else none := by kernel_rfl
theorem fc107_4 (ax : Axs) (S : TS) (l : List T) : tFieldAddr (EE ax) S 107 4 (.cp l) = some (.cp (l.drop 4)) := by kernel_rfl
theorem fld107_5 (ax : Axs) (l : List T) : tField (EE ax) 107 5 (.agg l) = bif Nat.ble (5 + 0) l.length then some (.agg ((l.drop 5).take 0)) else none := by kernel_rfl
noncomputable def fs107 : Array Field := match Try.prog.underlying 107 with | some (.struct fs) => fs | _ => #[]
theorem bt107 (ax : Axs) (ρ : Operand → T) (parts : List (Nat × Operand)) : tBuild (EE ax) ρ 107 parts = aggO (buildT [.int .i64 0, .int .i64 0, .int .i64 0, .int .i64 0, .bool false] (partsT (placeS (EE ax) fs107) ρ parts)) := by kernel_rfl
theorem ti107 (ax : Axs) : (EE ax).ti.at 107 = some ⟨.struct fs107, 5, 40, [.int .i64 0, .int .i64 0, .int .i64 0, .int .i64 0, .bool false]⟩ := by kernel_rfl
theorem pl107_0 (ax : Axs) : placeS (EE ax) fs107 0 = some (0, 1) := by kernel_rfl
theorem pl107_1 (ax : Axs) : placeS (EE ax) fs107 1 = some (1, 1) := by kernel_rfl
theorem pl107_2 (ax : Axs) : placeS (EE ax) fs107 2 = some (2, 1) := by kernel_rfl
theorem pl107_3 (ax : Axs) : placeS (EE ax) fs107 3 = some (3, 1) := by kernel_rfl
theorem pl107_4 (ax : Axs) : placeS (EE ax) fs107 4 = some (4, 1) := by kernel_rfl
theorem pl107_5 (ax : Axs) : placeS (EE ax) fs107 5 = some (5, 0) := by kernel_rfl
theorem ti111 (ax : Axs) : (EE ax).ti.at 111 = some ⟨.pointer 113, 1, 8, [.pointer none]⟩ := by kernel_rfl
theorem fld112_0 (ax : Axs) (l : List T) : tField (EE ax) 112 0 (.agg l) = l[0]? := by kernel_rfl
theorem fa112_0 (ax : Axs) (S : TS) (b off N : Nat) : tFieldAddr (EE ax) S 112 0 (.ptr b off N) = bif S.has b N then some (.ptr b (off + 0) N) else none := by kernel_rfl
theorem fc112_0 (ax : Axs) (S : TS) (l : List T) : tFieldAddr (EE ax) S 112 0 (.cp l) = some (.cp (l.drop 0)) := by kernel_rfl
theorem fld112_1 (ax : Axs) (l : List T) : tField (EE ax) 112 1 (.agg l) = l[1]? := by kernel_rfl
theorem fa112_1 (ax : Axs) (S : TS) (b off N : Nat) : tFieldAddr (EE ax) S 112 1 (.ptr b off N) = bif S.has b N then some (.ptr b (off + 1) N) else none := by kernel_rfl
theorem fc112_1 (ax : Axs) (S : TS) (l : List T) : tFieldAddr (EE ax) S 112 1 (.cp l) = some (.cp (l.drop 1)) := by kernel_rfl
theorem fld112_2 (ax : Axs) (l : List T) : tField (EE ax) 112 2 (.agg l) = l[2]? := by kernel_rfl
theorem fa112_2 (ax : Axs) (S : TS) (b off N : Nat) : tFieldAddr (EE ax) S 112 2 (.ptr b off N) = bif S.has b N then some (.ptr b (off + 2) N) else none := by kernel_rfl
theorem fc112_2 (ax : Axs) (S : TS) (l : List T) : tFieldAddr (EE ax) S 112 2 (.cp l) = some (.cp (l.drop 2)) := by kernel_rfl
theorem fld112_3 (ax : Axs) (l : List T) : tField (EE ax) 112 3 (.agg l) = l[3]? := by kernel_rfl
theorem fa112_3 (ax : Axs) (S : TS) (b off N : Nat) : tFieldAddr (EE ax) S 112 3 (.ptr b off N) = bif S.has b N then some (.ptr b (off + 3) N) else none := by kernel_rfl
theorem fc112_3 (ax : Axs) (S : TS) (l : List T) : tFieldAddr (EE ax) S 112 3 (.cp l) = some (.cp (l.drop 3)) := by kernel_rfl
theorem fld112_4 (ax : Axs) (l : List T) : tField (EE ax) 112 4 (.agg l) = l[4]? := by kernel_rfl
theorem fa112_4 (ax : Axs) (S : TS) (b off N : Nat) : tFieldAddr (EE ax) S 112 4 (.ptr b off N) = bif S.has b N then some (.ptr b (off + 4) N) else none := by kernel_rfl
theorem fc112_4 (ax : Axs) (S : TS) (l : List T) : tFieldAddr (EE ax) S 112 4 (.cp l) = some (.cp (l.drop 4)) := by kernel_rfl
theorem fld112_5 (ax : Axs) (l : List T) : tField (EE ax) 112 5 (.agg l) = l[5]? := by kernel_rfl
theorem fa112_5 (ax : Axs) (S : TS) (b off N : Nat) : tFieldAddr (EE ax) S 112 5 (.ptr b off N) = bif S.has b N then some (.ptr b (off + 5) N) else none := by kernel_rfl
theorem fc112_5 (ax : Axs) (S : TS) (l : List T) : tFieldAddr (EE ax) S 112 5 (.cp l) = some (.cp (l.drop 5)) := by kernel_rfl
noncomputable def fs112 : Array Field := match Try.prog.underlying 112 with | some (.struct fs) => fs | _ => #[]
theorem bt112 (ax : Axs) (ρ : Operand → T) (parts : List (Nat × Operand)) : tBuild (EE ax) ρ 112 parts = aggO (buildT [.int .i64 0, .int .i64 0, .int .i64 0, .int .i64 0, .bool false, .int .i64 0] (partsT (placeS (EE ax) fs112) ρ parts)) := by kernel_rfl
theorem ti112 (ax : Axs) : (EE ax).ti.at 112 = some ⟨.struct fs112, 6, 48, [.int .i64 0, .int .i64 0, .int .i64 0, .int .i64 0, .bool false, .int .i64 0]⟩ := by kernel_rfl
theorem pl112_0 (ax : Axs) : placeS (EE ax) fs112 0 = some (0, 1) := by kernel_rfl
theorem pl112_1 (ax : Axs) : placeS (EE ax) fs112 1 = some (1, 1) := by kernel_rfl
theorem pl112_2 (ax : Axs) : placeS (EE ax) fs112 2 = some (2, 1) := by kernel_rfl
theorem pl112_3 (ax : Axs) : placeS (EE ax) fs112 3 = some (3, 1) := by kernel_rfl
theorem pl112_4 (ax : Axs) : placeS (EE ax) fs112 4 = some (4, 1) := by kernel_rfl
theorem pl112_5 (ax : Axs) : placeS (EE ax) fs112 5 = some (5, 1) := by kernel_rfl
theorem fld113_0 (ax : Axs) (l : List T) : tField (EE ax) 113 0 (.agg l) = l[0]? := by kernel_rfl
theorem fa113_0 (ax : Axs) (S : TS) (b off N : Nat) : tFieldAddr (EE ax) S 113 0 (.ptr b off N) = bif S.has b N then some (.ptr b (off + 0) N) else none := by kernel_rfl
theorem fc113_0 (ax : Axs) (S : TS) (l : List T) : tFieldAddr (EE ax) S 113 0 (.cp l) = some (.cp (l.drop 0)) := by kernel_rfl
theorem fld113_1 (ax : Axs) (l : List T) : tField (EE ax) 113 1 (.agg l) = l[1]? := by kernel_rfl
theorem fa113_1 (ax : Axs) (S : TS) (b off N : Nat) : tFieldAddr (EE ax) S 113 1 (.ptr b off N) = bif S.has b N then some (.ptr b (off + 1) N) else none := by kernel_rfl
theorem fc113_1 (ax : Axs) (S : TS) (l : List T) : tFieldAddr (EE ax) S 113 1 (.cp l) = some (.cp (l.drop 1)) := by kernel_rfl
theorem fld113_2 (ax : Axs) (l : List T) : tField (EE ax) 113 2 (.agg l) = l[2]? := by kernel_rfl
theorem fa113_2 (ax : Axs) (S : TS) (b off N : Nat) : tFieldAddr (EE ax) S 113 2 (.ptr b off N) = bif S.has b N then some (.ptr b (off + 2) N) else none := by kernel_rfl
theorem fc113_2 (ax : Axs) (S : TS) (l : List T) : tFieldAddr (EE ax) S 113 2 (.cp l) = some (.cp (l.drop 2)) := by kernel_rfl
theorem fld113_3 (ax : Axs) (l : List T) : tField (EE ax) 113 3 (.agg l) = l[3]? := by kernel_rfl
theorem fa113_3 (ax : Axs) (S : TS) (b off N : Nat) : tFieldAddr (EE ax) S 113 3 (.ptr b off N) = bif S.has b N then some (.ptr b (off + 3) N) else none := by kernel_rfl
theorem fc113_3 (ax : Axs) (S : TS) (l : List T) : tFieldAddr (EE ax) S 113 3 (.cp l) = some (.cp (l.drop 3)) := by kernel_rfl
theorem fld113_4 (ax : Axs) (l : List T) : tField (EE ax) 113 4 (.agg l) = l[4]? := by kernel_rfl
theorem fa113_4 (ax : Axs) (S : TS) (b off N : Nat) : tFieldAddr (EE ax) S 113 4 (.ptr b off N) = bif S.has b N then some (.ptr b (off + 4) N) else none := by kernel_rfl
theorem fc113_4 (ax : Axs) (S : TS) (l : List T) : tFieldAddr (EE ax) S 113 4 (.cp l) = some (.cp (l.drop 4)) := by kernel_rfl
theorem fld113_5 (ax : Axs) (l : List T) : tField (EE ax) 113 5 (.agg l) = l[5]? := by kernel_rfl
theorem fa113_5 (ax : Axs) (S : TS) (b off N : Nat) : tFieldAddr (EE ax) S 113 5 (.ptr b off N) = bif S.has b N then some (.ptr b (off + 5) N) else none := by kernel_rfl
theorem fc113_5 (ax : Axs) (S : TS) (l : List T) : tFieldAddr (EE ax) S 113 5 (.cp l) = some (.cp (l.drop 5)) := by kernel_rfl
noncomputable def fs113 : Array Field := match Try.prog.underlying 113 with | some (.struct fs) => fs | _ => #[]
theorem bt113 (ax : Axs) (ρ : Operand → T) (parts : List (Nat × Operand)) : tBuild (EE ax) ρ 113 parts = aggO (buildT [.int .i64 0, .int .i64 0, .int .i64 0, .int .i64 0, .bool false, .int .i64 0] (partsT (placeS (EE ax) fs113) ρ parts)) := by kernel_rfl
theorem ti113 (ax : Axs) : (EE ax).ti.at 113 = some ⟨.struct fs113, 6, 48, [.int .i64 0, .int .i64 0, .int .i64 0, .int .i64 0, .bool false, .int .i64 0]⟩ := by kernel_rfl
theorem pl113_0 (ax : Axs) : placeS (EE ax) fs113 0 = some (0, 1) := by kernel_rfl
theorem pl113_1 (ax : Axs) : placeS (EE ax) fs113 1 = some (1, 1) := by kernel_rfl
theorem pl113_2 (ax : Axs) : placeS (EE ax) fs113 2 = some (2, 1) := by kernel_rfl
theorem pl113_3 (ax : Axs) : placeS (EE ax) fs113 3 = some (3, 1) := by kernel_rfl
theorem pl113_4 (ax : Axs) : placeS (EE ax) fs113 4 = some (4, 1) := by kernel_rfl
theorem pl113_5 (ax : Axs) : placeS (EE ax) fs113 5 = some (5, 1) := by kernel_rfl
theorem ti122 (ax : Axs) : (EE ax).ti.at 122 = some ⟨.int .u32, 1, 4, [.int .u32 0]⟩ := by kernel_rfl
theorem ti126 (ax : Axs) : (EE ax).ti.at 126 = some ⟨.pointer 5, 1, 8, [.pointer none]⟩ := by kernel_rfl
theorem el22 (ax : Axs) : elemOf? (EE ax) 22 = some ⟨.struct fs98, 4, 40, [.string ⟨#[]⟩, .bool false, .int .i64 0, .int .i64 0]⟩ := by kernel_rfl
theorem el23 (ax : Axs) : elemOf? (EE ax) 23 = some ⟨.struct fs51, 3, 24, [.int .i64 0, .int .i64 0, .int .i64 0]⟩ := by kernel_rfl
theorem el24 (ax : Axs) : elemOf? (EE ax) 24 = some ⟨.struct fs100, 2, 24, [.string ⟨#[]⟩, .int .i64 0]⟩ := by kernel_rfl
theorem el27 (ax : Axs) : elemOf? (EE ax) 27 = some ⟨.int .i64, 1, 8, [.int .i64 0]⟩ := by kernel_rfl
theorem el30 (ax : Axs) : elemOf? (EE ax) 30 = some ⟨.struct fs41, 2, 32, [.slice none 0 0, .int .i64 0]⟩ := by kernel_rfl
theorem el69 (ax : Axs) : elemOf? (EE ax) 69 = some ⟨.pointer 107, 1, 8, [.pointer none]⟩ := by kernel_rfl
theorem el70 (ax : Axs) : elemOf? (EE ax) 70 = some ⟨.bool, 1, 1, [.bool false]⟩ := by kernel_rfl
theorem el75 (ax : Axs) : elemOf? (EE ax) 75 = some ⟨.struct fs78, 4, 32, [.int .i64 0, .int .i64 0, .int .i64 0, .bool false]⟩ := by kernel_rfl
theorem el86 (ax : Axs) : elemOf? (EE ax) 86 = some ⟨.pointer 113, 1, 8, [.pointer none]⟩ := by kernel_rfl
theorem el89 (ax : Axs) : elemOf? (EE ax) 89 = some ⟨.struct fs113, 6, 48, [.int .i64 0, .int .i64 0, .int .i64 0, .int .i64 0, .bool false, .int .i64 0]⟩ := by kernel_rfl
theorem el93 (ax : Axs) : elemOf? (EE ax) 93 = some ⟨.string, 1, 16, [.string ⟨#[]⟩]⟩ := by kernel_rfl
theorem el101 (ax : Axs) : elemOf? (EE ax) 101 = some ⟨.int .u8, 1, 1, [.int .u8 0]⟩ := by kernel_rfl
theorem el102 (ax : Axs) : elemOf? (EE ax) 102 = some ⟨.struct fs107, 5, 40, [.int .i64 0, .int .i64 0, .int .i64 0, .int .i64 0, .bool false]⟩ := by kernel_rfl
end Go.Proofs.Ytfalnphlgfoflaa
