/- The law of lengths in the plain machine. -/
import Derived.Test.YtciamgdigpgneaaPInt
import Derived.Test.YtciamgdigpgneaaWireMath2
namespace Go.Proofs.Ytciamgdigpgneaa
open Go Go.RowKit WM
set_option linter.unusedSimpArgs false
set_option linter.unusedVariables false
theorem sane (w : World) : Calls Try.prog 12 #[] w fun e w' => e = .returned (.bool true) ∧ Below w.heap.size w w' :=
  calls_true (L := [11, 12, 13, 14, 15, 16, 17, 18, 19, 20, 21, 22, 23, 24, 25, 26, 27, 28, 29, 30, 31, 32, 33, 34, 35, 36, 37, 38, 39, 40, 41, 42, 43, 44, 45, 46, 47, 48]) (fuel := 1000000000) (by kernel_rfl) (by kernel_rfl) (by kernel_rfl) w
noncomputable def axS : Axs := axAdd 12 (axVal (.bool true)) fun _ => none
theorem axS_ok : AxsOk Try.prog [] axS :=
  AxsOk.none.add (ax_val (L := [12]) (ax := fun _ => none) (fn := Try.f12) (by kernel_rfl) (by kernel_rfl) rfl rfl sane)
theorem sane_run (s : CS) : callR Try.prog (EE axS) 12 [] s = some (.bool true, s) := callR_ax (Γ := EE axS) (k := axVal (.bool true)) (show axS 12 = some _ from axAdd_same _ _ _) rfl
set_option maxRecDepth 100000 in
set_option maxHeartbeats 4000000 in
theorem len_run (m : Int) (m1 : -9223372036854775808 ≤ m) (m2 : m ≤ 9223372036854775807) (n : Int) (n1 : -9223372036854775808 ≤ n) (n2 : n ≤ 9223372036854775807) :
    ∃ v s2, callR Try.prog (EE axS) 5 [.int .i64 m, .int .i64 n] (St 0 (fun _ => famNone) 0 [] []) = some (v, s2) ∧ v = .bool true := by
  obtain ⟨ax, hax⟩ : ∃ ax, ax = axS := ⟨_, rfl⟩
  have hax1 : ax 5 = none := by rw [hax]; exact axAdd_ne _ _ (by decide)
  have hax2 : ax 14 = none := by rw [hax]; exact axAdd_ne _ _ (by decide)
  have SAN : ∀ s, callR Try.prog (EE ax) 12 [] s = some (.bool true, s) := by rw [hax]; exact sane_run
  rw [← hax]
  clear hax
  obtain ⟨ao1, N1, G1, e1, M1, -⟩ := wint_run ax hax2 m m1 m2 0 (fun _ => famNone) 0 [] [] (Nat.le_refl _)
  obtain ⟨ao2, N2, G2, e2, M2, -⟩ := wint_run ax hax2 n n1 n2 N1 G1 0 [] [] (Nat.zero_le _)
  obtain ⟨ao3, N3, G3, e3, M3, -⟩ := wint_run ax hax2 (-1 - m) (by omega) (by omega) N2 G2 N2 [] [] (Nat.le_refl _)
  have hL3 : (enc (-1 - m)).length = (enc m).length := enc_neg m
  have hle1 : far m ≤ far n → (enc m).length ≤ (enc n).length := enc_le
  have hle2 : far n ≤ far m → (enc n).length ≤ (enc m).length := enc_le
  have hone := enc_one m
  have h10 := enc_len m1 m2
  have hp1 : 0 < (enc m).length := venc_pos _
  have hp2 : 0 < (enc n).length := venc_pos _
  have hpre := enc_prefix m1 m2 n1 n2
  have hk1 : min (enc m).length (enc n).length ≤ (enc m).length := Nat.min_le_left _ _
  have hk2 : min (enc m).length (enc n).length ≤ (enc n).length := Nat.min_le_right _ _
  have hk0 : 0 < min (enc m).length (enc n).length := by omega
  have hmin : min ((enc m).length : Int) ((enc n).length : Int) = ((min (enc m).length (enc n).length : Nat) : Int) := by omega
  have hstr : decide (ByteArray.mk ((enc m).take (min (enc m).length (enc n).length)).toArray = ByteArray.mk ((enc n).take (min (enc m).length (enc n).length)).toArray) = decide (m = n) := by
    apply decide_eq_decide.2
    constructor
    · intro h
      apply hpre
      simpa using h
    · rintro rfl; rfl
  generalize hkk : min (enc m).length (enc n).length = kk at *
  obtain ⟨z1, ⟨rfl, h0⟩ | ⟨f1, u1, rest1, rfl, b2, b3, b4, b5, b6⟩⟩ := M1.own
  · omega
  obtain ⟨z2, ⟨rfl, h0⟩ | ⟨f2, u2, rest2, rfl, c2, c3, c4, c5, c6⟩⟩ := M2.own
  · omega
  have l2 := M2.le
  have l3 := M3.le
  have b2' : rowOf (G3 f1).rows u1 = some (bvs (enc m)) := by rw [M3.old f1 (by omega), M2.old f1 b4, b2]; simp [rowOf, Nat.beq_refl]
  have c2' : rowOf (G3 f2).rows u2 = some (bvs (enc n)) := by rw [M3.old f2 (by omega), c2]; simp [rowOf, Nat.beq_refl]
  have hb1 := bounds_h (len := (enc m).length) (natOf_nat .i64 kk) hk1
  have hb2 := bounds_h (len := (enc n).length) (natOf_nat .i64 kk) hk2
  have S1 := first_slq (n := N3) (lim := N3) (g := G3) (rd := []) (wr := []) (f := f1) (u := u1) (off := 0 + 0 * 1) (len := kk - 0) (cap := (enc m).length - 0) (e := 1) (k := kk - 0) b2' (by rw [bvs_len]; omega) (by omega)
  have S2 := first_slq (n := N3) (lim := N3) (g := G3) (rd := []) (wr := []) (f := f2) (u := u2) (off := 0 + 0 * 1) (len := kk - 0) (cap := (enc n).length - 0) (e := 1) (k := kk - 0) c2' (by rw [bvs_len]; omega) (by omega)
  rw [ins_lt (by omega)] at S1 S2
  rw [show ((bvs (enc m)).drop (0 + 0 * 1)).take ((kk - 0) * 1) = bvs ((enc m).take kk) by simp [bvs_take]] at S1
  rw [show ((bvs (enc n)).drop (0 + 0 * 1)).take ((kk - 0) * 1) = bvs ((enc n).take kk) by simp [bvs_take]] at S2
  have t1 := fun ρ o => conv_str (ρ := ρ) (o := o) (P := Try.prog) (Γ := EE ax) (ti28 ax) (ti9 ax) (ti5 ax) S1
  have t2 := fun ρ o => conv_str (ρ := ρ) (o := o) (P := Try.prog) (Γ := EE ax) (ti28 ax) (ti9 ax) (ti5 ax) S2
  have hf1 : max m (-1 - m) = far m := rfl
  have hf2 : max n (-1 - n) = far n := rfl
  refine callR_ex (fn := Try.f5) 97 hax1 (fn5 ax) rfl Try.ntmps5 (by simp) ?_
  simp (disch := omega) only [ofArgs_cons, ofArgs_nil, Nat.reduceAdd]
  apply W.seq
  apply W.region
  · simp (disch := first | omega | (simp (disch := omega) [ev_tmp, ev_const, get_of, upd_same, upd_ne, Try.underlying3, Try.underlying5, Try.underlying4, Try.underlying9, Try.underlying28]; done) | (apply inK_i64; omega) | (apply inK_u64; omega)) only [op_len, cond_true, cond_false, pick_on, stepC_if, goC_true, goC_false, guard_tt, guard_tf, guard_ft, guard_ff, slot_zero, slot_succ, put_some, runC_cons, runC_nil, stepC_free, dstC_dst, dstC_none, thenC_some, cop_assign, cop_move, cop_conv, cop_bin, cop_un, cop_pick, cop_index, cop_indexAddr, cop_load, cop_store, cop_alloc, cop_box, cop_build, cop_slice, cop_s2a, cop_field, cop_fieldAddr, cop_extract, cop_nilCheck, cop_call, cop_builtin, cop_buildSlice, ev_tmp, ev_const, ev_global, ev_func, put_of, get_of, upd_same, upd_ne, List.toList_toArray, List.map_cons, List.map_nil, some_map, none_map, ti3, ti5, ti4, ti9, ti28, op_len, len_sl (ti28 ax)]
    with_reducible rfl
  simp only [onN]
  apply W.seq
  apply W.region
  · simp (disch := first | omega | (simp (disch := omega) [ev_tmp, ev_const, get_of, upd_same, upd_ne, Try.underlying3, Try.underlying5, Try.underlying4, Try.underlying9, Try.underlying28]; done) | (apply inK_i64; omega) | (apply inK_u64; omega)) only [op_len, cond_true, cond_false, pick_on, stepC_if, goC_true, goC_false, guard_tt, guard_tf, guard_ft, guard_ff, slot_zero, slot_succ, put_some, runC_cons, runC_nil, stepC_free, dstC_dst, dstC_none, thenC_some, cop_assign, cop_move, cop_conv, cop_bin, cop_un, cop_pick, cop_index, cop_indexAddr, cop_load, cop_store, cop_alloc, cop_box, cop_build, cop_slice, cop_s2a, cop_field, cop_fieldAddr, cop_extract, cop_nilCheck, cop_call, cop_builtin, cop_buildSlice, ev_tmp, ev_const, ev_global, ev_func, put_of, get_of, upd_same, upd_ne, List.toList_toArray, List.map_cons, List.map_nil, some_map, none_map, ti3, ti5, ti4, ti9, ti28, op_len, len_sl (ti28 ax), e1, e2]
    with_reducible rfl
  simp only [onN]
  apply W.seq
  apply W.region
  · simp (disch := first | omega | (simp (disch := omega) [ev_tmp, ev_const, get_of, upd_same, upd_ne, Try.underlying3, Try.underlying5, Try.underlying4, Try.underlying9, Try.underlying28]; done) | (apply inK_i64; omega) | (apply inK_u64; omega)) only [op_len, cond_true, cond_false, pick_on, stepC_if, goC_true, goC_false, guard_tt, guard_tf, guard_ft, guard_ff, slot_zero, slot_succ, put_some, runC_cons, runC_nil, stepC_free, dstC_dst, dstC_none, thenC_some, cop_assign, cop_move, cop_conv, cop_bin, cop_un, cop_pick, cop_index, cop_indexAddr, cop_load, cop_store, cop_alloc, cop_box, cop_build, cop_slice, cop_s2a, cop_field, cop_fieldAddr, cop_extract, cop_nilCheck, cop_call, cop_builtin, cop_buildSlice, ev_tmp, ev_const, ev_global, ev_func, put_of, get_of, upd_same, upd_ne, List.toList_toArray, List.map_cons, List.map_nil, some_map, none_map, ti3, ti5, ti4, ti9, ti28, op_len, len_sl (ti28 ax), oi_sub, o_max (k := .i64) (k' := .i64) (a := m) (b := -1 - m), o_max (k := .i64) (k' := .i64) (a := n) (b := -1 - n), hf1, hf2]
    with_reducible rfl
  simp only [onN]
  apply W.seq
  apply W.seq
  refine W.region_ex (fun fr s => ∃ h, fr = Fr.of 97 h ∧ s = St N2 G2 0 [] [] ∧ h 0 = .int .i64 m ∧ h 1 = .int .i64 n ∧ h 5 = .slice (some (mkA f1 u1 0)) (enc m).length (enc m).length ∧ h 6 = .slice (some (mkA f2 u2 0)) (enc n).length (enc n).length ∧ h 66 = .bool false) ?_ ?_
  · have y1 : decide (((enc m).length : Int) = 0) = false := decide_eq_false (by omega)
    have y2 : decide (((enc n).length : Int) = 0) = false := decide_eq_false (by omega)
    have y3 : decide (10 < ((enc m).length : Int)) = false := decide_eq_false (by omega)
    have y4 : decide (((enc m).length : Int) = 1) = decide (far m < 64) := decide_eq_decide.2 (by have := hone; omega)
    have hpost : ∀ h : Nat → Value, h 0 = .int .i64 m ∧ h 1 = .int .i64 n ∧ h 5 = .slice (some (mkA f1 u1 0)) (enc m).length (enc m).length ∧ h 6 = .slice (some (mkA f2 u2 0)) (enc n).length (enc n).length ∧ h 66 = .bool false → (fun fr s => ∃ h, fr = Fr.of 97 h ∧ s = St N2 G2 0 [] [] ∧ h 0 = .int .i64 m ∧ h 1 = .int .i64 n ∧ h 5 = .slice (some (mkA f1 u1 0)) (enc m).length (enc m).length ∧ h 6 = .slice (some (mkA f2 u2 0)) (enc n).length (enc n).length ∧ h 66 = .bool false) (Fr.of 97 h) (St N2 G2 0 [] []) := fun h hh => ⟨h, rfl, rfl, hh.1, hh.2.1, hh.2.2.1, hh.2.2.2.1, hh.2.2.2.2⟩
    rcases (by omega : far m ≤ far n ∧ far n ≤ far m ∨ far m ≤ far n ∧ ¬ far n ≤ far m ∨ ¬ far m ≤ far n ∧ far n ≤ far m) with ⟨q1, q2⟩ | ⟨q1, q2⟩ | ⟨q1, q2⟩
    · have x1 : decide (far m ≤ far n) = true := decide_eq_true q1
      have x2 : decide (far n ≤ far m) = true := decide_eq_true q2
      have x3 : decide (((enc n).length : Int) < ((enc m).length : Int)) = false := decide_eq_false (by have := hle1 q1; omega)
      have x4 : decide (((enc m).length : Int) < ((enc n).length : Int)) = false := decide_eq_false (by have := hle2 q2; omega)
      apply Exists.intro
      apply And.intro
      · simp (disch := first | omega | (simp (disch := omega) [ev_tmp, ev_const, get_of, upd_same, upd_ne, Try.underlying3, Try.underlying5, Try.underlying4, Try.underlying9, Try.underlying28]; done) | (apply inK_i64; omega) | (apply inK_u64; omega)) only [op_len, cond_true, cond_false, pick_on, stepC_if, goC_true, goC_false, guard_tt, guard_tf, guard_ft, guard_ff, slot_zero, slot_succ, put_some, runC_cons, runC_nil, stepC_free, dstC_dst, dstC_none, thenC_some, cop_assign, cop_move, cop_conv, cop_bin, cop_un, cop_pick, cop_index, cop_indexAddr, cop_load, cop_store, cop_alloc, cop_box, cop_build, cop_slice, cop_s2a, cop_field, cop_fieldAddr, cop_extract, cop_nilCheck, cop_call, cop_builtin, cop_buildSlice, ev_tmp, ev_const, ev_global, ev_func, put_of, get_of, upd_same, upd_ne, List.toList_toArray, List.map_cons, List.map_nil, some_map, none_map, ti3, ti5, ti4, ti9, ti28, op_len, len_sl (ti28 ax), oi_leq, oi_gtr, oi_eql, oi_lss, ob_neq, y1, y2, y3, y4, x1, x2, x3, x4, beq_self_eq_true, Bool.not_true]
        with_reducible rfl
      refine hpost _ ⟨?_, ?_, ?_, ?_, ?_⟩ <;> simp (disch := omega) only [upd_same, upd_ne]
    · have x1 : decide (far m ≤ far n) = true := decide_eq_true q1
      have x2 : decide (far n ≤ far m) = false := decide_eq_false q2
      have x3 : decide (((enc n).length : Int) < ((enc m).length : Int)) = false := decide_eq_false (by have := hle1 q1; omega)
      apply Exists.intro
      apply And.intro
      · simp (disch := first | omega | (simp (disch := omega) [ev_tmp, ev_const, get_of, upd_same, upd_ne, Try.underlying3, Try.underlying5, Try.underlying4, Try.underlying9, Try.underlying28]; done) | (apply inK_i64; omega) | (apply inK_u64; omega)) only [op_len, cond_true, cond_false, pick_on, stepC_if, goC_true, goC_false, guard_tt, guard_tf, guard_ft, guard_ff, slot_zero, slot_succ, put_some, runC_cons, runC_nil, stepC_free, dstC_dst, dstC_none, thenC_some, cop_assign, cop_move, cop_conv, cop_bin, cop_un, cop_pick, cop_index, cop_indexAddr, cop_load, cop_store, cop_alloc, cop_box, cop_build, cop_slice, cop_s2a, cop_field, cop_fieldAddr, cop_extract, cop_nilCheck, cop_call, cop_builtin, cop_buildSlice, ev_tmp, ev_const, ev_global, ev_func, put_of, get_of, upd_same, upd_ne, List.toList_toArray, List.map_cons, List.map_nil, some_map, none_map, ti3, ti5, ti4, ti9, ti28, op_len, len_sl (ti28 ax), oi_leq, oi_gtr, oi_eql, oi_lss, ob_neq, y1, y2, y3, y4, x1, x2, x3, beq_self_eq_true, Bool.not_true]
        with_reducible rfl
      refine hpost _ ⟨?_, ?_, ?_, ?_, ?_⟩ <;> simp (disch := omega) only [upd_same, upd_ne]
    · have x1 : decide (far m ≤ far n) = false := decide_eq_false q1
      have x2 : decide (far n ≤ far m) = true := decide_eq_true q2
      have x4 : decide (((enc m).length : Int) < ((enc n).length : Int)) = false := decide_eq_false (by have := hle2 q2; omega)
      apply Exists.intro
      apply And.intro
      · simp (disch := first | omega | (simp (disch := omega) [ev_tmp, ev_const, get_of, upd_same, upd_ne, Try.underlying3, Try.underlying5, Try.underlying4, Try.underlying9, Try.underlying28]; done) | (apply inK_i64; omega) | (apply inK_u64; omega)) only [op_len, cond_true, cond_false, pick_on, stepC_if, goC_true, goC_false, guard_tt, guard_tf, guard_ft, guard_ff, slot_zero, slot_succ, put_some, runC_cons, runC_nil, stepC_free, dstC_dst, dstC_none, thenC_some, cop_assign, cop_move, cop_conv, cop_bin, cop_un, cop_pick, cop_index, cop_indexAddr, cop_load, cop_store, cop_alloc, cop_box, cop_build, cop_slice, cop_s2a, cop_field, cop_fieldAddr, cop_extract, cop_nilCheck, cop_call, cop_builtin, cop_buildSlice, ev_tmp, ev_const, ev_global, ev_func, put_of, get_of, upd_same, upd_ne, List.toList_toArray, List.map_cons, List.map_nil, some_map, none_map, ti3, ti5, ti4, ti9, ti28, op_len, len_sl (ti28 ax), oi_leq, oi_gtr, oi_eql, oi_lss, ob_neq, y1, y2, y3, y4, x1, x2, x4, beq_self_eq_true, Bool.not_true]
        with_reducible rfl
      refine hpost _ ⟨?_, ?_, ?_, ?_, ?_⟩ <;> simp (disch := omega) only [upd_same, upd_ne]
  rintro fr s ⟨h, rfl, rfl, h0, h1, h5, h6, h66⟩
  simp only [onN]
  refine W.cond (b := false) ?_ ?_
  · simp (disch := omega) only [ev_tmp, get_of, h66]
  simp only [cond_false]
  apply W.skip
  simp only [onN]
  apply W.seq
  apply W.region
  · simp (disch := first | omega | (simp (disch := omega) [ev_tmp, ev_const, get_of, upd_same, upd_ne, h5, h6, Try.underlying3, Try.underlying5, Try.underlying4, Try.underlying9, Try.underlying28]; done) | (apply inK_i64; omega) | (apply inK_u64; omega)) only [op_len, cond_true, cond_false, pick_on, stepC_if, goC_true, goC_false, guard_tt, guard_tf, guard_ft, guard_ff, slot_zero, slot_succ, put_some, runC_cons, runC_nil, stepC_free, dstC_dst, dstC_none, thenC_some, cop_assign, cop_move, cop_conv, cop_bin, cop_un, cop_pick, cop_index, cop_indexAddr, cop_load, cop_store, cop_alloc, cop_box, cop_build, cop_slice, cop_s2a, cop_field, cop_fieldAddr, cop_extract, cop_nilCheck, cop_call, cop_builtin, cop_buildSlice, ev_tmp, ev_const, ev_global, ev_func, put_of, get_of, upd_same, upd_ne, List.toList_toArray, List.map_cons, List.map_nil, some_map, none_map, ti3, ti5, ti4, ti9, ti28, op_len, len_sl (ti28 ax), h5, h6, hkk, hmin, o_min (k := .i64) (k' := .i64) (a := ((enc m).length : Int)) (b := ((enc n).length : Int))]
    with_reducible rfl
  simp only [onN]
  apply W.seq
  apply W.quiet
  · simp (disch := first | omega | (simp (disch := omega) [ev_tmp, ev_const, get_of, upd_same, upd_ne, h0, h1, h5, h6, Try.underlying3, Try.underlying5, Try.underlying4, Try.underlying9, Try.underlying28]; done) | (apply inK_i64; omega) | (apply inK_u64; omega)) only [op_len, cond_true, cond_false, pick_on, stepC_if, goC_true, goC_false, guard_tt, guard_tf, guard_ft, guard_ff, slot_zero, slot_succ, put_some, runC_cons, runC_nil, stepC_free, dstC_dst, dstC_none, thenC_some, cop_assign, cop_move, cop_conv, cop_bin, cop_un, cop_pick, cop_index, cop_indexAddr, cop_load, cop_store, cop_alloc, cop_box, cop_build, cop_slice, cop_s2a, cop_field, cop_fieldAddr, cop_extract, cop_nilCheck, cop_call, cop_builtin, cop_buildSlice, ev_tmp, ev_const, ev_global, ev_func, put_of, get_of, upd_same, upd_ne, List.toList_toArray, List.map_cons, List.map_nil, some_map, none_map, ti3, ti5, ti4, ti9, ti28, quietC_cons, quietC_nil, inner_st, thenQ_same, op_len, len_sl (ti28 ax), SAN, h0, h1, h5, h6, oi_sub, e3, hL3, slice_sl (ti28 ax) (ti5 ax) hb1 (.inr b6), slice_sl (ti28 ax) (ti5 ax) hb2 (.inr c6), t1, t2, thenQ_rd, os_eql, oi_eql, ob_eql, hstr, beq_self_eq_true, decide_true]
    with_reducible rfl
  simp only [onN, onB]
  apply W.ret
  refine ⟨.inr rfl, [.bool true], ?_⟩
  apply Exists.intro
  apply And.intro
  · simp (disch := omega) only [resC, Try.results5, get_of, upd_same]
    all_goals rfl
  · rfl
theorem law_Lengths (m : Int) (m1 : -9223372036854775808 ≤ m) (m2 : m ≤ 9223372036854775807) (n : Int) (n1 : -9223372036854775808 ≤ n) (n2 : n ≤ 9223372036854775807) (w : World) :
    Calls Try.prog 5 #[.int .i64 m, .int .i64 n] w fun e w' => e = .returned (.bool true) ∧ Below w.heap.size w w' := by
  obtain ⟨v, s2, h, rfl⟩ := len_run m m1 m2 n n1 n2
  exact calls_plain mixed funcs_ok axS_ok (fn5 axS) rfl h rfl rfl w
end Go.Proofs.Ytciamgdigpgneaa
