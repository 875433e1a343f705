/- wire.Int in the plain machine: a slice of its own with the integer's encoding. -/
import Derived.Test.YtcmfoipnoejmlaaDoorHsA
import Derived.Test.YtcmfoipnoejmlaaDoorPMath
namespace Go.Proofs.YtcmfoipnoejmlaaDoor
open Go Go.RowKit WM
set_option linter.unusedSimpArgs false
set_option linter.unusedVariables false
theorem wint_run (ax : Axs) (hax : ax 59 = none) (m : Int) (m1 : -9223372036854775808 ≤ m) (m2 : m ≤ 9223372036854775807) (n : Nat) (g : Nat → Fam) (lim : Nat) (rd wr : List Nat) (hl : lim ≤ n) :
    ∃ ao n' g', callR Tryd.prog (EE ax) 59 [.int .i64 m] (St n g lim rd wr) = some (.slice ao (enc m).length (enc m).length, St n' g' lim rd wr) ∧ Made n g 1 ao (enc m).length (bvs (enc m)) n' g' ∧ n' ≤ n + 22 := by
  suffices h : ∃ v s2, callR Tryd.prog (EE ax) 59 [.int .i64 m] (St n g lim rd wr) = some (v, s2) ∧ ∃ ao n' g', v = .slice ao (enc m).length (enc m).length ∧ s2 = St n' g' lim rd wr ∧ Made n g 1 ao (enc m).length (bvs (enc m)) n' g' ∧ n' ≤ n + 22 by
    obtain ⟨v, s2, h1, ao, n', g', rfl, rfl, h2, h3⟩ := h
    exact ⟨ao, n', g', h1, h2, h3⟩
  have hz := pzig m m1 m2
  have hzl := zig_lt m1 m2
  refine callR_ex (fn := Tryd.f59) 27 hax (fn59 ax) rfl Tryd.ntmps59 (by simp) ?_
  simp (disch := omega) only [ofArgs_cons, ofArgs_nil, Nat.reduceAdd]
  repeat apply W.seq
  apply W.region
  · simp (disch := first | omega | (simp (disch := omega) [ev_tmp, ev_const, get_of, upd_same, upd_ne, Tryd.underlying3, Tryd.underlying32, Tryd.underlying5, Tryd.underlying22]; done) | (apply inK_i64; omega) | (apply inK_u64; omega)) only [op_len, cond_true, cond_false, pick_on, stepC_if, goC_true, goC_false, guard_tt, guard_tf, guard_ft, guard_ff, slot_zero, slot_succ, put_some, runC_cons, runC_nil, stepC_free, dstC_dst, dstC_none, thenC_some, cop_assign, cop_move, cop_conv, cop_bin, cop_un, cop_pick, cop_index, cop_indexAddr, cop_load, cop_store, cop_alloc, cop_box, cop_build, cop_slice, cop_s2a, cop_field, cop_fieldAddr, cop_extract, cop_nilCheck, cop_call, cop_builtin, cop_buildSlice, ev_tmp, ev_const, ev_global, ev_func, put_of, get_of, upd_same, upd_ne, List.toList_toArray, List.map_cons, List.map_nil, some_map, none_map, ti3, ti32, ti5, ti22]
    with_reducible rfl
  simp only [onN, onB]
  repeat apply W.seq
  apply W.region
  · simp (disch := first | omega | (simp (disch := omega) [ev_tmp, ev_const, get_of, upd_same, upd_ne, Tryd.underlying3, Tryd.underlying32, Tryd.underlying5, Tryd.underlying22]; done) | (apply inK_i64; omega) | (apply inK_u64; omega)) only [op_len, cond_true, cond_false, pick_on, stepC_if, goC_true, goC_false, guard_tt, guard_tf, guard_ft, guard_ff, slot_zero, slot_succ, put_some, runC_cons, runC_nil, stepC_free, dstC_dst, dstC_none, thenC_some, cop_assign, cop_move, cop_conv, cop_bin, cop_un, cop_pick, cop_index, cop_indexAddr, cop_load, cop_store, cop_alloc, cop_box, cop_build, cop_slice, cop_s2a, cop_field, cop_fieldAddr, cop_extract, cop_nilCheck, cop_call, cop_builtin, cop_buildSlice, ev_tmp, ev_const, ev_global, ev_func, put_of, get_of, upd_same, upd_ne, List.toList_toArray, List.map_cons, List.map_nil, some_map, none_map, ti3, ti32, ti5, ti22, opConvert, ow_shl, ow_shr, ow_xor, oc_int, hz]
    with_reducible rfl
  simp only [onN, onB]
  repeat apply W.seq
  apply W.region
  · simp (disch := first | omega | (simp (disch := omega) [ev_tmp, ev_const, get_of, upd_same, upd_ne, Tryd.underlying3, Tryd.underlying32, Tryd.underlying5, Tryd.underlying22]; done) | (apply inK_i64; omega) | (apply inK_u64; omega)) only [op_len, cond_true, cond_false, pick_on, stepC_if, goC_true, goC_false, guard_tt, guard_tf, guard_ft, guard_ff, slot_zero, slot_succ, put_some, runC_cons, runC_nil, stepC_free, dstC_dst, dstC_none, thenC_some, cop_assign, cop_move, cop_conv, cop_bin, cop_un, cop_pick, cop_index, cop_indexAddr, cop_load, cop_store, cop_alloc, cop_box, cop_build, cop_slice, cop_s2a, cop_field, cop_fieldAddr, cop_extract, cop_nilCheck, cop_call, cop_builtin, cop_buildSlice, ev_tmp, ev_const, ev_global, ev_func, put_of, get_of, upd_same, upd_ne, List.toList_toArray, List.map_cons, List.map_nil, some_map, none_map, ti3, ti32, ti5, ti22]
    with_reducible rfl
  simp only [onN, onB]
  apply W.seq
  apply W.block
  refine W.loop (fun k fr s => ∃ (zn : Nat) (pre : List UInt8) (ao : Option Addr) (n' : Nat) (g' : Nat → Fam) (h : Nat → Value), k = zn ∧ zn < 18446744073709551616 ∧ fr = Fr.of 27 h ∧ h 3 = .int .u64 (zn : Int) ∧ h 4 = .slice ao pre.length pre.length ∧ s = St n' g' lim rd wr ∧ OwnR n g' n' 1 ao pre.length (bvs pre) ∧ n ≤ n' ∧ n' ≤ n + 2 * pre.length ∧ (∀ i, i < n → g' i = g i) ∧ pre ++ venc zn = venc (zig m)) ?_ (zig m) _ _ ⟨zig m, [], none, n, g, _, rfl, hzl, rfl, ?_, ?_, rfl, OwnR.nil _ _ _ _, Nat.le_refl _, by simp, fun _ _ => rfl, rfl⟩
  case refine_2 => simp (disch := omega) only [upd_same, upd_ne]
  case refine_3 => simp (disch := omega) only [upd_same, upd_ne]; rfl
  rintro zn fr s ⟨k, pre, ao, n', g', h, rfl, hzn, rfl, h3, h4, rfl, hown, hn1, hn2, hold, heq⟩
  have hlen : pre.length ≤ 10 := by have := venc_len64 hzl; rw [← heq] at this; simp at this; omega
  repeat apply W.seq
  apply W.region
  · simp (disch := first | omega | (simp (disch := omega) [ev_tmp, ev_const, get_of, upd_same, upd_ne, h3, Tryd.underlying3, Tryd.underlying32, Tryd.underlying5, Tryd.underlying22]; done) | (apply inK_i64; omega) | (apply inK_u64; omega)) only [op_len, cond_true, cond_false, pick_on, stepC_if, goC_true, goC_false, guard_tt, guard_tf, guard_ft, guard_ff, slot_zero, slot_succ, put_some, runC_cons, runC_nil, stepC_free, dstC_dst, dstC_none, thenC_some, cop_assign, cop_move, cop_conv, cop_bin, cop_un, cop_pick, cop_index, cop_indexAddr, cop_load, cop_store, cop_alloc, cop_box, cop_build, cop_slice, cop_s2a, cop_field, cop_fieldAddr, cop_extract, cop_nilCheck, cop_call, cop_builtin, cop_buildSlice, ev_tmp, ev_const, ev_global, ev_func, put_of, get_of, upd_same, upd_ne, List.toList_toArray, List.map_cons, List.map_nil, some_map, none_map, ti3, ti32, ti5, ti22, oi_gtr, h3]
    with_reducible rfl
  simp only [onN, onB]
  by_cases hlt : (127 : Int) < (zn : Int)
  case neg =>
    refine W.cond (b := false) ?_ ?_
    · simp (disch := omega) only [ev_tmp, get_of, upd_same, hlt, decide_false]
    simp only [cond_false]
    apply W.exit
    simp only [onN, onB, Nat.beq_refl, cond_true]
    obtain ⟨ao', n2, g2, e1, o1, l1, l2, l3⟩ := OwnR.append (bytes := 1) (y := .slice (some (mkA n' (n' * 1024 + 0) 0)) 1 1) (rd := rd) (rd' := rd) (wr := wr) (k := 1) (xs := [vb (UInt8.ofNat zn)]) (hown.keep (n' := n' + 1) (g' := fupd g' n' ⟨false, [(n' * 1024 + 0, [vb (UInt8.ofNat zn)])], none⟩) (fun i _ hi => fupd_ne _ _ _ _ (by omega)) (by omega)) (by omega) hl rfl
      (by rw [first_sl (cs := [vb (UInt8.ofNat zn)]) (by rw [fupd_same]; exact rowOf_one) (by simp) (by omega)]; rfl) rfl rfl (by omega) (by omega)
    repeat apply W.seq
    apply W.region
    · simp (disch := first | omega | (simp (disch := omega) [ev_tmp, ev_const, get_of, upd_same, upd_ne, h3, h4, vb_cells, Tryd.underlying3, Tryd.underlying32, Tryd.underlying5, Tryd.underlying22]; done) | (apply inK_i64; omega) | (apply inK_u64; omega)) only [op_len, cond_true, cond_false, pick_on, stepC_if, goC_true, goC_false, guard_tt, guard_tf, guard_ft, guard_ff, slot_zero, slot_succ, put_some, runC_cons, runC_nil, stepC_free, dstC_dst, dstC_none, thenC_some, cop_assign, cop_move, cop_conv, cop_bin, cop_un, cop_pick, cop_index, cop_indexAddr, cop_load, cop_store, cop_alloc, cop_box, cop_build, cop_slice, cop_s2a, cop_field, cop_fieldAddr, cop_extract, cop_nilCheck, cop_call, cop_builtin, cop_buildSlice, ev_tmp, ev_const, ev_global, ev_func, put_of, get_of, upd_same, upd_ne, List.toList_toArray, List.map_cons, List.map_nil, some_map, none_map, ti3, ti32, ti5, ti22, opConvert, oc_int, plow zn (by omega), op_append (src_u8 ax), build_one (ti22 ax) (ti5 ax) rfl rfl, app_sl (el_u8 ax), e1, h3, h4]
      with_reducible rfl
    simp only [onN, onB]
    apply W.ret
    refine ⟨.inr rfl, [.slice ao' (pre.length + 1) (pre.length + 1)], _, ?_, ao', n2, g2, ?_, rfl, ?_, by omega⟩
    · simp (disch := omega) only [resC, Tryd.results59, get_of, upd_same]
      all_goals rfl
    · have he : enc m = pre ++ [UInt8.ofNat zn] := by unfold enc; rw [← heq, venc_lt (by omega)]
      rw [he, List.length_append]; rfl
    · have he : enc m = pre ++ [UInt8.ofNat zn] := by unfold enc; rw [← heq, venc_lt (by omega)]
      rw [he, List.length_append, bvs_app]
      exact ⟨o1, by omega, fun i hi => by rw [l3 i hi, fupd_ne _ _ _ _ (by omega), hold i hi]⟩
  refine W.cond (b := true) ?_ ?_
  · simp (disch := omega) only [ev_tmp, get_of, upd_same, hlt, decide_true]
  simp only [cond_true]
  apply W.skip
  simp only [onN]
  obtain ⟨ao', n2, g2, e1, o1, l1, l2, l3⟩ := OwnR.append (bytes := 1) (y := .slice (some (mkA n' (n' * 1024 + 0) 0)) 1 1) (rd := rd) (rd' := rd) (wr := wr) (k := 1) (xs := [vb (UInt8.ofNat (zn % 128 + 128))]) (hown.keep (n' := n' + 1) (g' := fupd g' n' ⟨false, [(n' * 1024 + 0, [vb (UInt8.ofNat (zn % 128 + 128))])], none⟩) (fun i _ hi => fupd_ne _ _ _ _ (by omega)) (by omega)) (by omega) hl rfl
      (by rw [first_sl (cs := [vb (UInt8.ofNat (zn % 128 + 128))]) (by rw [fupd_same]; exact rowOf_one) (by simp) (by omega)]; rfl) rfl rfl (by omega) (by omega)
  apply W.seq
  apply W.block
  repeat apply W.seq
  apply W.region
  · simp (disch := first | omega | (simp (disch := omega) [ev_tmp, ev_const, get_of, upd_same, upd_ne, h3, h4, vb_cells, Tryd.underlying3, Tryd.underlying32, Tryd.underlying5, Tryd.underlying22]; done) | (apply inK_i64; omega) | (apply inK_u64; omega)) only [op_len, cond_true, cond_false, pick_on, stepC_if, goC_true, goC_false, guard_tt, guard_tf, guard_ft, guard_ff, slot_zero, slot_succ, put_some, runC_cons, runC_nil, stepC_free, dstC_dst, dstC_none, thenC_some, cop_assign, cop_move, cop_conv, cop_bin, cop_un, cop_pick, cop_index, cop_indexAddr, cop_load, cop_store, cop_alloc, cop_box, cop_build, cop_slice, cop_s2a, cop_field, cop_fieldAddr, cop_extract, cop_nilCheck, cop_call, cop_builtin, cop_buildSlice, ev_tmp, ev_const, ev_global, ev_func, put_of, get_of, upd_same, upd_ne, List.toList_toArray, List.map_cons, List.map_nil, some_map, none_map, ti3, ti32, ti5, ti22, opConvert, oc_int, ow_or, por zn, op_append (src_u8 ax), build_one (ti22 ax) (ti5 ax) rfl rfl, app_sl (el_u8 ax), e1, h3, h4]
    with_reducible rfl
  simp only [onN, onB]
  repeat apply W.seq
  apply W.region
  · simp (disch := first | omega | (simp (disch := omega) [ev_tmp, ev_const, get_of, upd_same, upd_ne, h3, Tryd.underlying3, Tryd.underlying32, Tryd.underlying5, Tryd.underlying22]; done) | (apply inK_i64; omega) | (apply inK_u64; omega)) only [op_len, cond_true, cond_false, pick_on, stepC_if, goC_true, goC_false, guard_tt, guard_tf, guard_ft, guard_ff, slot_zero, slot_succ, put_some, runC_cons, runC_nil, stepC_free, dstC_dst, dstC_none, thenC_some, cop_assign, cop_move, cop_conv, cop_bin, cop_un, cop_pick, cop_index, cop_indexAddr, cop_load, cop_store, cop_alloc, cop_box, cop_build, cop_slice, cop_s2a, cop_field, cop_fieldAddr, cop_extract, cop_nilCheck, cop_call, cop_builtin, cop_buildSlice, ev_tmp, ev_const, ev_global, ev_func, put_of, get_of, upd_same, upd_ne, List.toList_toArray, List.map_cons, List.map_nil, some_map, none_map, ti3, ti32, ti5, ti22, ow_shr, pshr zn, h3]
    with_reducible rfl
  simp only [onN, onB]
  refine ⟨zn / 128, by omega, zn / 128, pre ++ [UInt8.ofNat (zn % 128 + 128)], ao', n2, g2, _, rfl, by omega, rfl, ?_, ?_, rfl, ?_, by omega, ?_, fun i hi => by rw [l3 i hi, fupd_ne _ _ _ _ (by omega), hold i hi], ?_⟩
  · simp (disch := omega) only [upd_same, upd_ne]
  · simp (disch := omega) only [upd_same, upd_ne]
    rw [List.length_append]; rfl
  · rw [List.length_append, bvs_app]; exact o1
  · rw [List.length_append]; simp; omega
  · rw [← heq, venc_ge (show ¬ zn < 128 by omega)]; simp
end Go.Proofs.YtcmfoipnoejmlaaDoor
