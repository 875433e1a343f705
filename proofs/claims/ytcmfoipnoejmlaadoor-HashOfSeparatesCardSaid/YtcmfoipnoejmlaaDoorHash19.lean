/- wire.Bytes and the document's Int and Bytes in the plain machine. -/
import Derived.Test.YtcmfoipnoejmlaaDoorHash18
import Derived.Test.YtcmfoipnoejmlaaDoorPIntH
namespace Go.Proofs.YtcmfoipnoejmlaaDoor
open Go Go.RowKit WM
set_option linter.unusedSimpArgs false
set_option linter.unusedVariables false
set_option maxRecDepth 100000
def encS (s : ByteArray) : List UInt8 := enc (s.size : Int) ++ s.data.toList
set_option maxHeartbeats 1000000 in
theorem wbytes_run (ax : Axs) (hp : Plain ax) (s : ByteArray) (hsz : s.size < 1000000) (n : Nat) (g : Nat → Fam) (lim : Nat) (rd wr : List Nat) (hl : lim ≤ n) :
    ∃ ao n' g', callR Tryd.prog (EE ax) 56 [.string s] (St n g lim rd wr) = some (.slice ao (encS s).length (encS s).length, St n' g' lim rd wr) ∧ OwnX n g' n' 1 ao (encS s).length (bvs (encS s)) ∧ n ≤ n' ∧ (∀ i, i < n → g' i = g i) := by
  have hax : ax 56 = none := hp _ (by decide)
  suffices hh : ∃ v s2, callR Tryd.prog (EE ax) 56 [.string s] (St n g lim rd wr) = some (v, s2) ∧ ∃ ao n' g', v = .slice ao (encS s).length (encS s).length ∧ s2 = St n' g' lim rd wr ∧ OwnX n g' n' 1 ao (encS s).length (bvs (encS s)) ∧ n ≤ n' ∧ (∀ i, i < n → g' i = g i) by
    obtain ⟨v, s2, h1, ao, n', g', rfl, rfl, h2⟩ := hh
    exact ⟨ao, n', g', h1, h2⟩
  obtain ⟨a1, n1, g1, e1, m1, b1⟩ := wint_run ax (hp _ (by decide)) (s.size : Int) (by omega) (by omega) n g lim rd wr hl
  have o1 : OwnX n g1 n1 1 a1 (enc (s.size : Int)).length (bvs (enc (s.size : Int))) := .inl m1.own
  have l1 := m1.le
  have k1 := m1.old
  have h10 := enc_len (n := (s.size : Int)) (by omega) (by omega)
  have ht : CS.firstCells (St n1 g1 lim rd wr) 1 s.size (.string s) = some (bvs s.data.toList, St n1 g1 lim rd wr) := by
    rw [first_str (Nat.le_refl _), ext_all]; rfl
  obtain ⟨a2, n2, g2, e2, o2, l2, l2', k2⟩ := o1.append (bytes := 1) (k := s.size) (y := .string s) (by omega) hl rfl ht (by rw [bvs_len, str_len, Nat.mul_one]) (bvs_one _) (by omega) (by omega)
  have hlen : (encS s).length = (enc (s.size : Int)).length + s.size := by unfold encS; rw [List.length_append, str_len]
  rw [← bvs_app] at o2
  refine callR_ex (fn := Tryd.f56) 8 hax (fn56 ax) rfl Tryd.ntmps56 (by simp) ?_
  simp (disch := omega) only [ofArgs_cons, ofArgs_nil, Nat.reduceAdd]
  repeat apply W.seq
  apply W.region
  · simp (disch := first | omega | (simp (disch := omega) [ev_tmp, ev_const, get_of, upd_same, upd_ne, Tryd.underlying3, Tryd.underlying83, Tryd.underlying5, Tryd.underlying32, Tryd.underlying9, Tryd.underlying22]; done) | (apply inK_i64; omega) | (apply inK_u64; omega)) only [op_len, cond_true, cond_false, pick_on, stepC_if, goC_true, goC_false, guard_tt, guard_tf, guard_ft, guard_ff, slot_zero, slot_succ, put_some, runC_cons, runC_nil, stepC_free, dstC_dst, dstC_none, thenC_some, cop_assign, cop_move, cop_conv, cop_bin, cop_un, cop_pick, cop_index, cop_indexAddr, cop_load, cop_store, cop_alloc, cop_box, cop_build, cop_slice, cop_s2a, cop_field, cop_fieldAddr, cop_extract, cop_nilCheck, cop_call, cop_builtin, cop_buildSlice, ev_tmp, ev_const, ev_global, ev_func, put_of, get_of, upd_same, upd_ne, List.toList_toArray, List.map_cons, List.map_nil, some_map, none_map, ti3, ti83, ti5, ti32]
    with_reducible rfl
  simp only [onN, onB]
  repeat apply W.seq
  apply W.region
  · simp (disch := first | omega | (simp (disch := omega) [ev_tmp, ev_const, get_of, upd_same, upd_ne, Tryd.underlying3, Tryd.underlying83, Tryd.underlying5, Tryd.underlying32, Tryd.underlying9, Tryd.underlying22]; done) | (apply inK_i64; omega) | (apply inK_u64; omega)) only [op_len, cond_true, cond_false, pick_on, stepC_if, goC_true, goC_false, guard_tt, guard_tf, guard_ft, guard_ff, slot_zero, slot_succ, put_some, runC_cons, runC_nil, stepC_free, dstC_dst, dstC_none, thenC_some, cop_assign, cop_move, cop_conv, cop_bin, cop_un, cop_pick, cop_index, cop_indexAddr, cop_load, cop_store, cop_alloc, cop_box, cop_build, cop_slice, cop_s2a, cop_field, cop_fieldAddr, cop_extract, cop_nilCheck, cop_call, cop_builtin, cop_buildSlice, ev_tmp, ev_const, ev_global, ev_func, put_of, get_of, upd_same, upd_ne, List.toList_toArray, List.map_cons, List.map_nil, some_map, none_map, ti3, ti83, ti5, ti32, len_str (ti9 ax), e1, op_append (src_str ax), app_sl (el_u8 ax), e2]
    with_reducible rfl
  simp only [onN, onB]
  apply W.ret
  refine ⟨.inr rfl, [.slice a2 ((enc (s.size : Int)).length + s.size) ((enc (s.size : Int)).length + s.size)], St n2 g2 lim rd wr, ?_, a2, n2, g2, by rw [hlen]; rfl, rfl, by rw [hlen]; exact o2, by omega, fun i hi => by rw [k2 _ hi, k1 _ hi]⟩
  simp (disch := omega) only [resC, Tryd.results56, get_of, upd_same]
  all_goals rfl
theorem zig_nat (m : Nat) : zig (m : Int) = 2 * m := by unfold zig; split <;> omega
set_option maxHeartbeats 2000000 in
theorem rint_run (ax : Axs) (hp : Plain ax) (m : Nat) (hm : m < 1000000000) (n : Nat) (g : Nat → Fam) (lim : Nat) (rd wr : List Nat) (hl : lim ≤ n) :
    ∃ ao n' g', callR Tryd.prog (EE ax) 46 [.int .i64 (m : Int)] (St n g lim rd wr) = some (.slice ao (enc (m : Int)).length (enc (m : Int)).length, St n' g' lim rd wr) ∧ OwnX n g' n' 1 ao (enc (m : Int)).length (bvs (enc (m : Int))) ∧ n ≤ n' ∧ (∀ i, i < n → g' i = g i) := by
  have hax : ax 46 = none := hp _ (by decide)
  suffices hh : ∃ v s2, callR Tryd.prog (EE ax) 46 [.int .i64 (m : Int)] (St n g lim rd wr) = some (v, s2) ∧ ∃ ao n' g', v = .slice ao (enc (m : Int)).length (enc (m : Int)).length ∧ s2 = St n' g' lim rd wr ∧ OwnX n g' n' 1 ao (enc (m : Int)).length (bvs (enc (m : Int))) ∧ n ≤ n' ∧ (∀ i, i < n → g' i = g i) by
    obtain ⟨v, s2, h1, ao, n', g', rfl, rfl, h2⟩ := hh
    exact ⟨ao, n', g', h1, h2⟩
  have hzl := zig_lt (n := (m : Int)) (by omega) (by omega)
  refine callR_ex (fn := Tryd.f46) 31 hax (fn46 ax) rfl Tryd.ntmps46 (by simp) ?_
  simp (disch := omega) only [ofArgs_cons, ofArgs_nil, Nat.reduceAdd]
  repeat apply W.seq
  apply W.region
  · simp (disch := first | omega | (simp (disch := omega) [ev_tmp, ev_const, get_of, upd_same, upd_ne, Tryd.underlying3, Tryd.underlying83, Tryd.underlying5, Tryd.underlying32, Tryd.underlying9, Tryd.underlying22]; done) | (apply inK_i64; omega) | (apply inK_u64; omega)) only [op_len, cond_true, cond_false, pick_on, stepC_if, goC_true, goC_false, guard_tt, guard_tf, guard_ft, guard_ff, slot_zero, slot_succ, put_some, runC_cons, runC_nil, stepC_free, dstC_dst, dstC_none, thenC_some, cop_assign, cop_move, cop_conv, cop_bin, cop_un, cop_pick, cop_index, cop_indexAddr, cop_load, cop_store, cop_alloc, cop_box, cop_build, cop_slice, cop_s2a, cop_field, cop_fieldAddr, cop_extract, cop_nilCheck, cop_call, cop_builtin, cop_buildSlice, ev_tmp, ev_const, ev_global, ev_func, put_of, get_of, upd_same, upd_ne, List.toList_toArray, List.map_cons, List.map_nil, some_map, none_map, ti3, ti83, ti5, ti32]
    with_reducible rfl
  simp only [onN, onB]
  have cu : IntKind.u64.wrap ((m : Nat) : Int) = ((m : Nat) : Int) := inK_u64 (by omega)
  have c2 : ((m : Nat) : Int) * 2 = ((2 * m : Nat) : Int) := by omega
  repeat apply W.seq
  apply W.region
  · simp (disch := first | omega | (simp (disch := omega) [ev_tmp, ev_const, get_of, upd_same, upd_ne, Tryd.underlying3, Tryd.underlying83, Tryd.underlying5, Tryd.underlying32, Tryd.underlying9, Tryd.underlying22]; done) | (apply inK_i64; omega) | (apply inK_u64; omega) | (rw [c2]; apply inK_u64; omega)) only [op_len, cond_true, cond_false, pick_on, stepC_if, goC_true, goC_false, guard_tt, guard_tf, guard_ft, guard_ff, slot_zero, slot_succ, put_some, runC_cons, runC_nil, stepC_free, dstC_dst, dstC_none, thenC_some, cop_assign, cop_move, cop_conv, cop_bin, cop_un, cop_pick, cop_index, cop_indexAddr, cop_load, cop_store, cop_alloc, cop_box, cop_build, cop_slice, cop_s2a, cop_field, cop_fieldAddr, cop_extract, cop_nilCheck, cop_call, cop_builtin, cop_buildSlice, ev_tmp, ev_const, ev_global, ev_func, put_of, get_of, upd_same, upd_ne, List.toList_toArray, List.map_cons, List.map_nil, some_map, none_map, ti3, ti83, ti5, ti32, opConvert, oc_int, cu, oi_mul, c2]
    with_reducible rfl
  simp only [onN, onB]
  have xn : decide (((m : Nat) : Int) < 0) = false := decide_eq_false (by omega)
  repeat apply W.seq
  apply W.region
  · simp (disch := first | omega | (simp (disch := omega) [ev_tmp, ev_const, get_of, upd_same, upd_ne, Tryd.underlying3, Tryd.underlying83, Tryd.underlying5, Tryd.underlying32, Tryd.underlying9, Tryd.underlying22]; done) | (apply inK_i64; omega) | (apply inK_u64; omega)) only [op_len, cond_true, cond_false, pick_on, stepC_if, goC_true, goC_false, guard_tt, guard_tf, guard_ft, guard_ff, slot_zero, slot_succ, put_some, runC_cons, runC_nil, stepC_free, dstC_dst, dstC_none, thenC_some, cop_assign, cop_move, cop_conv, cop_bin, cop_un, cop_pick, cop_index, cop_indexAddr, cop_load, cop_store, cop_alloc, cop_box, cop_build, cop_slice, cop_s2a, cop_field, cop_fieldAddr, cop_extract, cop_nilCheck, cop_call, cop_builtin, cop_buildSlice, ev_tmp, ev_const, ev_global, ev_func, put_of, get_of, upd_same, upd_ne, List.toList_toArray, List.map_cons, List.map_nil, some_map, none_map, ti3, ti83, ti5, ti32, oi_lss, xn]
    with_reducible rfl
  simp only [onN, onB]
  repeat apply W.seq
  refine W.cond (b := false) ?_ ?_
  · simp (disch := omega) only [ev_tmp, get_of, upd_same, upd_ne, cond_true, decide_true, decide_false]
  simp only [cond_true, cond_false]
  apply W.skip
  simp only [onN, onB]
  repeat apply W.seq
  apply W.region
  · simp (disch := first | omega | (simp (disch := omega) [ev_tmp, ev_const, get_of, upd_same, upd_ne, Tryd.underlying3, Tryd.underlying83, Tryd.underlying5, Tryd.underlying32, Tryd.underlying9, Tryd.underlying22]; done) | (apply inK_i64; omega) | (apply inK_u64; omega)) only [op_len, cond_true, cond_false, pick_on, stepC_if, goC_true, goC_false, guard_tt, guard_tf, guard_ft, guard_ff, slot_zero, slot_succ, put_some, runC_cons, runC_nil, stepC_free, dstC_dst, dstC_none, thenC_some, cop_assign, cop_move, cop_conv, cop_bin, cop_un, cop_pick, cop_index, cop_indexAddr, cop_load, cop_store, cop_alloc, cop_box, cop_build, cop_slice, cop_s2a, cop_field, cop_fieldAddr, cop_extract, cop_nilCheck, cop_call, cop_builtin, cop_buildSlice, ev_tmp, ev_const, ev_global, ev_func, put_of, get_of, upd_same, upd_ne, List.toList_toArray, List.map_cons, List.map_nil, some_map, none_map, ti3, ti83, ti5, ti32]
    with_reducible rfl
  simp only [onN, onB]
  repeat apply W.seq
  apply W.block
  refine W.loop (fun k fr s => ∃ (zn : Nat) (pre : List UInt8) (ao : Option Addr) (n' : Nat) (g' : Nat → Fam) (h : Nat → Value), k = zn ∧ zn < 18446744073709551616 ∧ fr = Fr.of 31 h ∧ h 3 = .int .u64 (zn : Int) ∧ h 4 = .slice ao pre.length pre.length ∧ s = St n' g' lim rd wr ∧ OwnX n g' n' 1 ao pre.length (bvs pre) ∧ n ≤ n' ∧ (∀ i, i < n → g' i = g i) ∧ pre ++ venc zn = venc (2 * m)) ?_ (2 * m) _ _ ⟨2 * m, [], none, n, g, _, rfl, by omega, rfl, ?_, ?_, rfl, .inl (OwnR.nil _ _ _ _), Nat.le_refl _, fun _ _ => rfl, rfl⟩
  case refine_2 => simp (disch := omega) only [upd_same, upd_ne]
  case refine_3 => simp (disch := omega) only [upd_same, upd_ne]; rfl
  rintro zn fr s ⟨k, pre, ao, n', g', h, rfl, hzn, rfl, h3, h4, rfl, hown, hn1, hold, heq⟩
  have hlen : pre.length ≤ 10 := by have := venc_len64 (z := 2 * m) (by omega); rw [← heq] at this; simp at this; omega
  have henc : enc (m : Int) = venc (2 * m) := by unfold enc; rw [zig_nat]
  repeat apply W.seq
  apply W.region
  · simp (disch := first | omega | (simp (disch := omega) [ev_tmp, ev_const, get_of, upd_same, upd_ne, h3, Tryd.underlying3, Tryd.underlying83, Tryd.underlying5, Tryd.underlying32, Tryd.underlying9, Tryd.underlying22]; done) | (apply inK_i64; omega) | (apply inK_u64; omega)) only [op_len, cond_true, cond_false, pick_on, stepC_if, goC_true, goC_false, guard_tt, guard_tf, guard_ft, guard_ff, slot_zero, slot_succ, put_some, runC_cons, runC_nil, stepC_free, dstC_dst, dstC_none, thenC_some, cop_assign, cop_move, cop_conv, cop_bin, cop_un, cop_pick, cop_index, cop_indexAddr, cop_load, cop_store, cop_alloc, cop_box, cop_build, cop_slice, cop_s2a, cop_field, cop_fieldAddr, cop_extract, cop_nilCheck, cop_call, cop_builtin, cop_buildSlice, ev_tmp, ev_const, ev_global, ev_func, put_of, get_of, upd_same, upd_ne, List.toList_toArray, List.map_cons, List.map_nil, some_map, none_map, ti3, ti83, ti5, ti32, oi_geq, h3]
    with_reducible rfl
  simp only [onN, onB]
  by_cases hlt : (128 : Int) ≤ (zn : Int)
  case neg =>
    repeat apply W.seq
    refine W.cond (b := false) ?_ ?_
    · simp (disch := omega) only [ev_tmp, get_of, upd_same, upd_ne, hlt, decide_true, decide_false]
    simp only [cond_true, cond_false]
    apply W.exit
    simp only [onN, onB, Nat.beq_refl, cond_true, cond_false, bexit]
    obtain ⟨ao', n2, g2, e1, o1, l1, l2, l3⟩ := OwnX.push (lim := lim) (bytes := 1) (rd := rd) (wr := wr) (v := vb (UInt8.ofNat zn)) hown (by omega) hl rfl (by omega)
    repeat apply W.seq
    apply W.region
    · simp (disch := first | omega | (simp (disch := omega) [ev_tmp, ev_const, get_of, upd_same, upd_ne, h3, h4, vb_cells, Tryd.underlying3, Tryd.underlying83, Tryd.underlying5, Tryd.underlying32, Tryd.underlying9, Tryd.underlying22]; done) | (apply inK_i64; omega) | (apply inK_u64; omega)) only [op_len, cond_true, cond_false, pick_on, stepC_if, goC_true, goC_false, guard_tt, guard_tf, guard_ft, guard_ff, slot_zero, slot_succ, put_some, runC_cons, runC_nil, stepC_free, dstC_dst, dstC_none, thenC_some, cop_assign, cop_move, cop_conv, cop_bin, cop_un, cop_pick, cop_index, cop_indexAddr, cop_load, cop_store, cop_alloc, cop_box, cop_build, cop_slice, cop_s2a, cop_field, cop_fieldAddr, cop_extract, cop_nilCheck, cop_call, cop_builtin, cop_buildSlice, ev_tmp, ev_const, ev_global, ev_func, put_of, get_of, upd_same, upd_ne, List.toList_toArray, List.map_cons, List.map_nil, some_map, none_map, ti3, ti83, ti5, ti32, opConvert, oc_int, plow zn (by omega), op_append (src_u8 ax), build_one (ti22 ax) (ti5 ax) rfl rfl, app_sl (el_u8 ax), e1, h3, h4]
      with_reducible rfl
    simp only [onN, onB]
    apply W.ret
    have he : enc (m : Int) = pre ++ [UInt8.ofNat zn] := by rw [henc, ← heq, venc_lt (by omega)]
    refine ⟨.inr rfl, [.slice ao' (pre.length + 1) (pre.length + 1)], St n2 g2 lim rd wr, ?_, ao', n2, g2, by rw [he, List.length_append]; rfl, rfl, ?_, by omega, fun i hi => by rw [l3 i hi, hold i hi]⟩
    · simp (disch := omega) only [resC, Tryd.results46, get_of, upd_same]
      all_goals rfl
    · rw [he, List.length_append, bvs_app]; exact o1
  repeat apply W.seq
  refine W.cond (b := true) ?_ ?_
  · simp (disch := omega) only [ev_tmp, get_of, upd_same, upd_ne, hlt, decide_true, decide_false]
  simp only [cond_true, cond_false]
  apply W.skip
  simp only [onN, onB]
  have d1 : ((zn : Nat) : Int) % 128 = ((zn % 128 : Nat) : Int) := by omega
  have d2 : IntKind.u8.wrap ((zn % 128 : Nat) : Int) = ((zn % 128 : Nat) : Int) := inK_u8 (by omega)
  have d3 : ((zn % 128 : Nat) : Int) + 128 = ((zn % 128 + 128 : Nat) : Int) := by omega
  have d4 : ((zn : Nat) : Int) / 128 = ((zn / 128 : Nat) : Int) := by omega
  obtain ⟨ao', n2, g2, e1, o1, l1, l2, l3⟩ := OwnX.push (lim := lim) (bytes := 1) (rd := rd) (wr := wr) (v := vb (UInt8.ofNat (zn % 128 + 128))) hown (by omega) hl rfl (by omega)
  repeat apply W.seq
  apply W.block
  repeat apply W.seq
  apply W.region
  · simp (disch := first | omega | (simp (disch := omega) [ev_tmp, ev_const, get_of, upd_same, upd_ne, h3, h4, vb_cells, Tryd.underlying3, Tryd.underlying83, Tryd.underlying5, Tryd.underlying32, Tryd.underlying9, Tryd.underlying22]; done) | (apply inK_i64; omega) | (apply inK_u64; omega) | (rw [d3]; apply inK_u8; omega)) only [op_len, cond_true, cond_false, pick_on, stepC_if, goC_true, goC_false, guard_tt, guard_tf, guard_ft, guard_ff, slot_zero, slot_succ, put_some, runC_cons, runC_nil, stepC_free, dstC_dst, dstC_none, thenC_some, cop_assign, cop_move, cop_conv, cop_bin, cop_un, cop_pick, cop_index, cop_indexAddr, cop_load, cop_store, cop_alloc, cop_box, cop_build, cop_slice, cop_s2a, cop_field, cop_fieldAddr, cop_extract, cop_nilCheck, cop_call, cop_builtin, cop_buildSlice, ev_tmp, ev_const, ev_global, ev_func, put_of, get_of, upd_same, upd_ne, List.toList_toArray, List.map_cons, List.map_nil, some_map, none_map, ti3, ti83, ti5, ti32, opConvert, oc_int, oi_rem, d1, d2, oi_add, d3, vb_lit (zn % 128 + 128) (by omega), op_append (src_u8 ax), build_one (ti22 ax) (ti5 ax) rfl rfl, app_sl (el_u8 ax), e1, h3, h4]
    with_reducible rfl
  simp only [onN, onB]
  repeat apply W.seq
  apply W.region
  · simp (disch := first | omega | (simp (disch := omega) [ev_tmp, ev_const, get_of, upd_same, upd_ne, h3, Tryd.underlying3, Tryd.underlying83, Tryd.underlying5, Tryd.underlying32, Tryd.underlying9, Tryd.underlying22]; done) | (apply inK_i64; omega) | (apply inK_u64; omega) | (rw [d4]; apply inK_u64; omega)) only [op_len, cond_true, cond_false, pick_on, stepC_if, goC_true, goC_false, guard_tt, guard_tf, guard_ft, guard_ff, slot_zero, slot_succ, put_some, runC_cons, runC_nil, stepC_free, dstC_dst, dstC_none, thenC_some, cop_assign, cop_move, cop_conv, cop_bin, cop_un, cop_pick, cop_index, cop_indexAddr, cop_load, cop_store, cop_alloc, cop_box, cop_build, cop_slice, cop_s2a, cop_field, cop_fieldAddr, cop_extract, cop_nilCheck, cop_call, cop_builtin, cop_buildSlice, ev_tmp, ev_const, ev_global, ev_func, put_of, get_of, upd_same, upd_ne, List.toList_toArray, List.map_cons, List.map_nil, some_map, none_map, ti3, ti83, ti5, ti32, oi_quo, d4, h3]
    with_reducible rfl
  simp only [onN, onB]
  refine ⟨zn / 128, by omega, zn / 128, pre ++ [UInt8.ofNat (zn % 128 + 128)], ao', n2, g2, _, rfl, by omega, rfl, ?_, ?_, rfl, ?_, by omega, fun i hi => by rw [l3 i hi, hold i hi], ?_⟩
  · simp (disch := omega) only [upd_same, upd_ne]
  · simp (disch := omega) only [upd_same, upd_ne]
    rw [List.length_append]; rfl
  · rw [List.length_append, bvs_app]; exact o1
  · rw [← heq, venc_ge (show ¬ zn < 128 by omega)]; simp
set_option maxHeartbeats 1000000 in
theorem rbytes_run (ax : Axs) (hp : Plain ax) (s : ByteArray) (hsz : s.size < 1000000) (n : Nat) (g : Nat → Fam) (lim : Nat) (rd wr : List Nat) (hl : lim ≤ n) :
    ∃ ao n' g', callR Tryd.prog (EE ax) 58 [.string s] (St n g lim rd wr) = some (.slice ao (encS s).length (encS s).length, St n' g' lim rd wr) ∧ OwnX n g' n' 1 ao (encS s).length (bvs (encS s)) ∧ n ≤ n' ∧ (∀ i, i < n → g' i = g i) := by
  have hax : ax 58 = none := hp _ (by decide)
  suffices hh : ∃ v s2, callR Tryd.prog (EE ax) 58 [.string s] (St n g lim rd wr) = some (v, s2) ∧ ∃ ao n' g', v = .slice ao (encS s).length (encS s).length ∧ s2 = St n' g' lim rd wr ∧ OwnX n g' n' 1 ao (encS s).length (bvs (encS s)) ∧ n ≤ n' ∧ (∀ i, i < n → g' i = g i) by
    obtain ⟨v, s2, h1, ao, n', g', rfl, rfl, h2⟩ := hh
    exact ⟨ao, n', g', h1, h2⟩
  obtain ⟨a1, n1, g1, e1, o1, l1, k1⟩ := rint_run ax hp s.size (by omega) n g lim rd wr hl
  have h10 := enc_len (n := (s.size : Int)) (by omega) (by omega)
  have ht : CS.firstCells (St n1 g1 lim rd wr) 1 s.size (.string s) = some (bvs s.data.toList, St n1 g1 lim rd wr) := by
    rw [first_str (Nat.le_refl _), ext_all]; rfl
  obtain ⟨a2, n2, g2, e2, o2, l2, l2', k2⟩ := o1.append (bytes := 1) (k := s.size) (y := .string s) (by omega) hl rfl ht (by rw [bvs_len, str_len, Nat.mul_one]) (bvs_one _) (by omega) (by omega)
  have hlen : (encS s).length = (enc (s.size : Int)).length + s.size := by unfold encS; rw [List.length_append, str_len]
  rw [← bvs_app] at o2
  refine callR_ex (fn := Tryd.f58) 8 hax (fn58 ax) rfl Tryd.ntmps58 (by simp) ?_
  simp (disch := omega) only [ofArgs_cons, ofArgs_nil, Nat.reduceAdd]
  repeat apply W.seq
  apply W.region
  · simp (disch := first | omega | (simp (disch := omega) [ev_tmp, ev_const, get_of, upd_same, upd_ne, Tryd.underlying3, Tryd.underlying83, Tryd.underlying5, Tryd.underlying32, Tryd.underlying9, Tryd.underlying22]; done) | (apply inK_i64; omega) | (apply inK_u64; omega)) only [op_len, cond_true, cond_false, pick_on, stepC_if, goC_true, goC_false, guard_tt, guard_tf, guard_ft, guard_ff, slot_zero, slot_succ, put_some, runC_cons, runC_nil, stepC_free, dstC_dst, dstC_none, thenC_some, cop_assign, cop_move, cop_conv, cop_bin, cop_un, cop_pick, cop_index, cop_indexAddr, cop_load, cop_store, cop_alloc, cop_box, cop_build, cop_slice, cop_s2a, cop_field, cop_fieldAddr, cop_extract, cop_nilCheck, cop_call, cop_builtin, cop_buildSlice, ev_tmp, ev_const, ev_global, ev_func, put_of, get_of, upd_same, upd_ne, List.toList_toArray, List.map_cons, List.map_nil, some_map, none_map, ti3, ti83, ti5, ti32]
    with_reducible rfl
  simp only [onN, onB]
  repeat apply W.seq
  apply W.region
  · simp (disch := first | omega | (simp (disch := omega) [ev_tmp, ev_const, get_of, upd_same, upd_ne, Tryd.underlying3, Tryd.underlying83, Tryd.underlying5, Tryd.underlying32, Tryd.underlying9, Tryd.underlying22]; done) | (apply inK_i64; omega) | (apply inK_u64; omega)) only [op_len, cond_true, cond_false, pick_on, stepC_if, goC_true, goC_false, guard_tt, guard_tf, guard_ft, guard_ff, slot_zero, slot_succ, put_some, runC_cons, runC_nil, stepC_free, dstC_dst, dstC_none, thenC_some, cop_assign, cop_move, cop_conv, cop_bin, cop_un, cop_pick, cop_index, cop_indexAddr, cop_load, cop_store, cop_alloc, cop_box, cop_build, cop_slice, cop_s2a, cop_field, cop_fieldAddr, cop_extract, cop_nilCheck, cop_call, cop_builtin, cop_buildSlice, ev_tmp, ev_const, ev_global, ev_func, put_of, get_of, upd_same, upd_ne, List.toList_toArray, List.map_cons, List.map_nil, some_map, none_map, ti3, ti83, ti5, ti32, len_str (ti9 ax), e1, op_append (src_str ax), app_sl (el_u8 ax), e2]
    with_reducible rfl
  simp only [onN, onB]
  apply W.ret
  refine ⟨.inr rfl, [.slice a2 ((enc (s.size : Int)).length + s.size) ((enc (s.size : Int)).length + s.size)], St n2 g2 lim rd wr, ?_, a2, n2, g2, by rw [hlen]; rfl, rfl, by rw [hlen]; exact o2, by omega, fun i hi => by rw [k2 _ hi, k1 _ hi]⟩
  simp (disch := omega) only [resC, Tryd.results58, get_of, upd_same]
  all_goals rfl
end Go.Proofs.YtcmfoipnoejmlaaDoor
