/- Copies of slices. -/
import Derived.Test.YtfalnphlgfoflaaFd
namespace Go.Proofs.Ytfalnphlgfoflaa
open Go Go.RowKit
set_option linter.unusedSimpArgs false
set_option linter.unusedVariables false
set_option maxRecDepth 100000
set_option maxHeartbeats 4000000 in
theorem sClone_new (ax : Axs) (hx : Plain ax) (l : List Int) (hl : l.length * 9 ≤ 1000000000) : Call Try.prog (EE ax) [] 44 [ints l] ts0 (.arr 0 1 0 l.length l.length l.length) (stL [.cells false l.length (l.map (T.int .i64))]) := by
  refine Call.enter (fn := Try.f44) 8 (hx.no _ (by decide)) (fn44 ax) rfl Try.ntmps44 (by decide) (by simp) (Nat.zero_le _) (by rfl) ?_
  simp only [argT_cons, argT_nil, Nat.reduceAdd]
  cases l with
  | nil =>
    refine TW.lst0 0 1 (by omega) (by rfl) ?_ ?_
    · rw [ts0_st]
      repeat apply TW.seq
      apply TW.region (envs_ok ax) [] []
      · kernel_rfl
      · simp (disch := first | omega | decide | (simp only [lzA, Nat.reduceAdd, Nat.reduceLT]; done) | fail) only [b0, b1, b2, b3, b4, b5, b6, b7, b8, Nat.reduceAdd, Nat.reduceEqDiff, Nat.reduceMul, reduceIte, reduceCtorEq, encA, ti27 ax, el27, sr27, tNil, tBin, ic_buildSlice, sT_buildSlice, apA, tSrc, tBuildOwn, partsT, placeA, fillT, buildT, List.replicate, List.flatten_nil, cm_int, cm_bool, cm_str, am_int, am_bool, am_str, Bool.or_true, Bool.true_or, Bool.false_or, Bool.or_self]
        with_reducible rfl
      · exact trivial
      simp only [onT, onTB]
      repeat apply TW.seq
      apply TW.region (envs_ok ax) [] []
      · kernel_rfl
      · simp (disch := first | omega | decide | (simp only [lzA, Nat.reduceAdd, Nat.reduceLT]; done) | fail) only [b0, b1, b2, b3, b4, b5, b6, b7, b8, Nat.reduceAdd, Nat.reduceEqDiff, Nat.reduceMul, reduceIte, reduceCtorEq, encA, ti27 ax, el27, sr27, tNil, tBin, ic_buildSlice, sT_buildSlice, apA, tSrc, tBuildOwn, partsT, placeA, fillT, buildT, List.replicate, List.flatten_nil, cm_int, cm_bool, cm_str, am_int, am_bool, am_str, Bool.or_true, Bool.true_or, Bool.false_or, Bool.or_self]
        with_reducible rfl
      · exact trivial
      simp only [onT, onTB]
      repeat apply TW.seq
      refine TW.cond (b := true) ?_ ?_
      · simp only [eT_tmp, eT_const, kT_bool, tupd_at, Nat.reduceEqDiff, reduceIte, Bool.and_self]
      simp only [cond_true, cond_false]
      repeat apply TW.seq
      apply TW.region (envs_ok ax) [] []
      · kernel_rfl
      · simp (disch := first | omega | decide | (simp only [lzA, Nat.reduceAdd, Nat.reduceLT]; done) | fail) only [b0, b1, b2, b3, b4, b5, b6, b7, b8, Nat.reduceAdd, Nat.reduceEqDiff, Nat.reduceMul, reduceIte, reduceCtorEq, encA, ti27 ax, el27, sr27, tNil, tBin, ic_buildSlice, sT_buildSlice, apA, tSrc, tBuildOwn, partsT, placeA, fillT, buildT, List.replicate, List.flatten_nil, cm_int, cm_bool, cm_str, am_int, am_bool, am_str, Bool.or_true, Bool.true_or, Bool.false_or, Bool.or_self]
        with_reducible rfl
      · exact trivial
      simp only [onT, onTB]
      refine TW.vec 2 1 (by first | rfl | (simp only [tupd_at, Nat.reduceEqDiff, reduceIte]; done)) ?_
      rw [st_add]
      simp only [scB, Nat.reduceAdd]
      apply TW.ret
      exact ⟨.inr rfl, _, rfl, _, Shift.refl _ _, Keeps.one (by simp only [ids2B, idsA, idsB, Bool.and_self])⟩
    · rw [ts0_st]
      repeat apply TW.seq
      apply TW.region (envs_ok ax) [] []
      · kernel_rfl
      · simp (disch := first | omega | decide | (simp only [lzA, Nat.reduceAdd, Nat.reduceLT]; done) | fail) only [b0, b1, b2, b3, b4, b5, b6, b7, b8, Nat.reduceAdd, Nat.reduceEqDiff, Nat.reduceMul, reduceIte, reduceCtorEq, encA, ti27 ax, el27, sr27, tNil, tBin, ic_buildSlice, sT_buildSlice, apA, tSrc, tBuildOwn, partsT, placeA, fillT, buildT, List.replicate, List.flatten_nil, cm_int, cm_bool, cm_str, am_int, am_bool, am_str, Bool.or_true, Bool.true_or, Bool.false_or, Bool.or_self]
        with_reducible rfl
      · exact trivial
      simp only [onT, onTB]
      repeat apply TW.seq
      apply TW.region (envs_ok ax) [] []
      · kernel_rfl
      · simp (disch := first | omega | decide | (simp only [lzA, Nat.reduceAdd, Nat.reduceLT]; done) | fail) only [b0, b1, b2, b3, b4, b5, b6, b7, b8, Nat.reduceAdd, Nat.reduceEqDiff, Nat.reduceMul, reduceIte, reduceCtorEq, encA, ti27 ax, el27, sr27, tNil, tBin, ic_buildSlice, sT_buildSlice, apA, tSrc, tBuildOwn, partsT, placeA, fillT, buildT, List.replicate, List.flatten_nil, cm_int, cm_bool, cm_str, am_int, am_bool, am_str, Bool.or_true, Bool.true_or, Bool.false_or, Bool.or_self]
        with_reducible rfl
      · exact trivial
      simp only [onT, onTB]
      repeat apply TW.seq
      refine TW.cond (b := false) ?_ ?_
      · simp only [eT_tmp, eT_const, kT_bool, tupd_at, Nat.reduceEqDiff, reduceIte, Bool.false_and, Bool.and_self]
      simp only [cond_true, cond_false]
      repeat apply TW.seq
      apply TW.skip
      simp only [onT, onTB]
      repeat apply TW.seq
      apply TW.region (envs_ok ax) [5] []
      · kernel_rfl
      · simp (disch := first | omega | decide | (simp only [lzA, Nat.reduceAdd, Nat.reduceLT]; done) | fail) only [b0, b1, b2, b3, b4, b5, b6, b7, b8, Nat.reduceAdd, Nat.reduceEqDiff, Nat.reduceMul, reduceIte, reduceCtorEq, encA, ti27 ax, el27, sr27, tNil, tBin, ic_buildSlice, sT_buildSlice, apA, tSrc, tBuildOwn, partsT, placeA, fillT, buildT, List.replicate, List.flatten_nil, cm_int, cm_bool, cm_str, am_int, am_bool, am_str, Bool.or_true, Bool.true_or, Bool.false_or, Bool.or_self]
        with_reducible rfl
      · exact trivial
      simp only [onT, onTB]
      refine TW.unz 0 (by rfl) ?_
      rw [st_set _ _ _ (by simp only [lzA] <;> omega)]
      simp only [scA]
      apply TW.ret
      exact ⟨.inr rfl, _, rfl, _, Shift.refl _ _, Keeps.one (by simp only [ids2B, idsA, idsB, Bool.and_self])⟩
  | cons x r =>
    rw [ts0_st]
    simp only [List.length_cons] at hl
    repeat apply TW.seq
    apply TW.region (envs_ok ax) [] []
    · kernel_rfl
    · simp (disch := first | omega | decide | (simp only [lzA, Nat.reduceAdd, Nat.reduceLT]; done) | fail) only [b0, b1, b2, b3, b4, b5, b6, b7, b8, Nat.reduceAdd, Nat.reduceEqDiff, Nat.reduceMul, reduceIte, reduceCtorEq, encA, ti27 ax, el27, sr27, tNil, tBin, ic_buildSlice, sT_buildSlice, apA, tSrc, tBuildOwn, partsT, placeA, fillT, buildT, List.replicate, List.flatten_nil, cm_int, cm_bool, cm_str, am_int, am_bool, am_str, Bool.or_true, Bool.true_or, Bool.false_or, Bool.or_self]
      with_reducible rfl
    · exact trivial
    simp only [onT, onTB]
    repeat apply TW.seq
    apply TW.region (envs_ok ax) [] []
    · kernel_rfl
    · simp (disch := first | omega | decide | (simp only [lzA, Nat.reduceAdd, Nat.reduceLT]; done) | fail) only [b0, b1, b2, b3, b4, b5, b6, b7, b8, Nat.reduceAdd, Nat.reduceEqDiff, Nat.reduceMul, reduceIte, reduceCtorEq, encA, ti27 ax, el27, sr27, tNil, tBin, ic_buildSlice, sT_buildSlice, apA, tSrc, tBuildOwn, partsT, placeA, fillT, buildT, List.replicate, List.flatten_nil, cm_int, cm_bool, cm_str, am_int, am_bool, am_str, Bool.or_true, Bool.true_or, Bool.false_or, Bool.or_self]
      with_reducible rfl
    · exact trivial
    simp only [onT, onTB]
    repeat apply TW.seq
    refine TW.cond (b := false) ?_ ?_
    · simp only [eT_tmp, eT_const, kT_bool, tupd_at, Nat.reduceEqDiff, reduceIte, Bool.false_and, Bool.and_self]
    simp only [cond_true, cond_false]
    repeat apply TW.seq
    apply TW.skip
    simp only [onT, onTB]
    repeat apply TW.seq
    apply TW.region (envs_ok ax) [5] []
    · kernel_rfl
    · simp (disch := first | omega | decide | (simp only [lzA, Nat.reduceAdd, Nat.reduceLT]; done) | fail) only [b0, b1, b2, b3, b4, b5, b6, b7, b8, Nat.reduceAdd, Nat.reduceEqDiff, Nat.reduceMul, reduceIte, reduceCtorEq, encA, ti27 ax, el27, sr27, tNil, tBin, ic_buildSlice, sT_buildSlice, apA, tSrc, tBuildOwn, partsT, placeA, fillT, buildT, List.replicate, List.flatten_nil, cm_int, cm_bool, cm_str, am_int, am_bool, am_str, Bool.or_true, Bool.true_or, Bool.false_or, Bool.or_self]
      with_reducible rfl
    · exact trivial
    simp only [onT, onTB]
    apply TW.ret
    exact ⟨.inr rfl, _, rfl, _, Shift.refl _ _, Keeps.one (by simp only [ids2B, idsA, idsB, Bool.and_self])⟩

end Go.Proofs.Ytfalnphlgfoflaa