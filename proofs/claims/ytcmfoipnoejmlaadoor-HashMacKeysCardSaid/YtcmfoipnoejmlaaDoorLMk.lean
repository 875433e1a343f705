/- The law HashMacKeys in the plain machine. -/
import Derived.Test.YtcmfoipnoejmlaaDoorHsC
namespace Go.Proofs.YtcmfoipnoejmlaaDoor
open Go Go.RowKit
set_option linter.unusedSimpArgs false
set_option linter.unusedVariables false
set_option maxRecDepth 100000
theorem axH_comp : axH 53 = some hComp := by unfold axH axC1; rw [axAdd_ne _ _ (by decide)]; exact axAdd_same _ _ _
theorem mac_long (key text : List UInt8) (h : 64 < key.length) : macB (sha key) text = macB key text := by
  unfold macB keyK
  rw [if_pos h, sha_len, if_neg (by omega)]
theorem mac_short (key text : List UInt8) (h : key.length < 64) : macB (key ++ [0]) text = macB key text := by
  have hk : ∀ c, padS (key ++ [0]) c = padS key c := by
    intro c
    unfold padS
    congr 1
    unfold lay
    rw [List.take_zero, List.nil_append, List.nil_append, List.length_append, List.drop_replicate, List.drop_replicate, List.append_assoc]
    have e : 64 - (0 + key.length) = (64 - (0 + (key.length + [(0 : UInt8)].length))) + 1 := by simp; omega
    rw [e, List.replicate_succ]
    rfl
  unfold macB keyK
  rw [if_neg (by rw [List.length_append]; simp; omega), if_neg (by omega), hk, hk]
set_option maxHeartbeats 2000000 in
theorem mk_law (a b : ByteArray) (n : Nat) (g : Nat → Fam) (hG : 1 < n) (hk : rowOf (g 1).rows (1 * 1024) = some kcells) :
    ∃ v s2, callR Tryd.prog (EE axH) 6 [.string a, .string b] (St n g 0 [] []) = some (v, s2) ∧ v = .bool true := by
  have hax : axH 6 = none := axH_plain _ (by decide)
  have SAN : callR Tryd.prog (EE axH) 16 [] (St n g 0 [] []) = some (.bool true, St n g 0 (ins 0 [] 1) []) := sane_run _ hk
  have hkw : rowOf (g 1).rows (1 * 1024) = some (wvs KW) := by rw [hk, kcells_eq]
  refine callR_ex (fn := Tryd.f6) 54 hax (fn6 axH) rfl Tryd.ntmps6 (by simp) ?_
  simp (disch := omega) only [ofArgs_cons, ofArgs_nil, Nat.reduceAdd]
  repeat apply W.seq
  apply W.region
  · simp (disch := first | omega | (simp (disch := omega) [ev_tmp, ev_const, get_of, upd_same, upd_ne, Tryd.underlying3, Tryd.underlying9, Tryd.underlying4]; done) | (apply inK_i64; omega) | (apply inK_u64; omega)) only [op_len, cond_true, cond_false, pick_on, stepC_if, goC_true, goC_false, guard_tt, guard_tf, guard_ft, guard_ff, slot_zero, slot_succ, put_some, runC_cons, runC_nil, stepC_free, dstC_dst, dstC_none, thenC_some, cop_assign, cop_move, cop_conv, cop_bin, cop_un, cop_pick, cop_index, cop_indexAddr, cop_load, cop_store, cop_alloc, cop_box, cop_build, cop_slice, cop_s2a, cop_field, cop_fieldAddr, cop_extract, cop_nilCheck, cop_call, cop_builtin, cop_buildSlice, ev_tmp, ev_const, ev_global, ev_func, put_of, get_of, upd_same, upd_ne, List.toList_toArray, List.map_cons, List.map_nil, some_map, none_map, ti3, ti4]
    with_reducible rfl
  simp only [onN, onB]
  repeat apply W.seq
  apply W.region
  · simp (disch := first | omega | (simp (disch := omega) [ev_tmp, ev_const, get_of, upd_same, upd_ne, Tryd.underlying3, Tryd.underlying9, Tryd.underlying4]; done) | (apply inK_i64; omega) | (apply inK_u64; omega)) only [op_len, cond_true, cond_false, pick_on, stepC_if, goC_true, goC_false, guard_tt, guard_tf, guard_ft, guard_ff, slot_zero, slot_succ, put_some, runC_cons, runC_nil, stepC_free, dstC_dst, dstC_none, thenC_some, cop_assign, cop_move, cop_conv, cop_bin, cop_un, cop_pick, cop_index, cop_indexAddr, cop_load, cop_store, cop_alloc, cop_box, cop_build, cop_slice, cop_s2a, cop_field, cop_fieldAddr, cop_extract, cop_nilCheck, cop_call, cop_builtin, cop_buildSlice, ev_tmp, ev_const, ev_global, ev_func, put_of, get_of, upd_same, upd_ne, List.toList_toArray, List.map_cons, List.map_nil, some_map, none_map, ti3, ti4, SAN]
    with_reducible rfl
  simp only [onN, onB]
  by_cases hbig : (400 : Int) < a.size ∨ (400 : Int) < b.size
  · repeat apply W.seq
    refine (W.region_ex (fun fr s => ∃ h, fr = Fr.of 54 h ∧ h 5 = .bool true ∧ h 16 = .bool true) ?_ ?_)
    · by_cases h1 : (400 : Int) < a.size
      · have x1 : decide ((400 : Int) < a.size) = true := decide_eq_true h1
        apply Exists.intro
        apply And.intro
        · simp (disch := first | omega | (simp (disch := omega) [ev_tmp, ev_const, get_of, upd_same, upd_ne, Tryd.underlying3, Tryd.underlying9, Tryd.underlying4]; done) | (apply inK_i64; omega) | (apply inK_u64; omega)) only [op_len, cond_true, cond_false, pick_on, stepC_if, goC_true, goC_false, guard_tt, guard_tf, guard_ft, guard_ff, slot_zero, slot_succ, put_some, runC_cons, runC_nil, stepC_free, dstC_dst, dstC_none, thenC_some, cop_assign, cop_move, cop_conv, cop_bin, cop_un, cop_pick, cop_index, cop_indexAddr, cop_load, cop_store, cop_alloc, cop_box, cop_build, cop_slice, cop_s2a, cop_field, cop_fieldAddr, cop_extract, cop_nilCheck, cop_call, cop_builtin, cop_buildSlice, ev_tmp, ev_const, ev_global, ev_func, put_of, get_of, upd_same, upd_ne, List.toList_toArray, List.map_cons, List.map_nil, some_map, none_map, ti3, ti4, oi_gtr, len_str (ti9 axH), x1]
          with_reducible rfl
        · exact ⟨_, rfl, by simp (disch := omega) only [upd_same, upd_ne], by simp (disch := omega) only [upd_same, upd_ne]⟩
      · have x1 : decide ((400 : Int) < a.size) = false := decide_eq_false h1
        have x2 : decide ((400 : Int) < b.size) = true := decide_eq_true (by omega)
        apply Exists.intro
        apply And.intro
        · simp (disch := first | omega | (simp (disch := omega) [ev_tmp, ev_const, get_of, upd_same, upd_ne, Tryd.underlying3, Tryd.underlying9, Tryd.underlying4]; done) | (apply inK_i64; omega) | (apply inK_u64; omega)) only [op_len, cond_true, cond_false, pick_on, stepC_if, goC_true, goC_false, guard_tt, guard_tf, guard_ft, guard_ff, slot_zero, slot_succ, put_some, runC_cons, runC_nil, stepC_free, dstC_dst, dstC_none, thenC_some, cop_assign, cop_move, cop_conv, cop_bin, cop_un, cop_pick, cop_index, cop_indexAddr, cop_load, cop_store, cop_alloc, cop_box, cop_build, cop_slice, cop_s2a, cop_field, cop_fieldAddr, cop_extract, cop_nilCheck, cop_call, cop_builtin, cop_buildSlice, ev_tmp, ev_const, ev_global, ev_func, put_of, get_of, upd_same, upd_ne, List.toList_toArray, List.map_cons, List.map_nil, some_map, none_map, ti3, ti4, oi_gtr, len_str (ti9 axH), x1, x2]
          with_reducible rfl
        · exact ⟨_, rfl, by simp (disch := omega) only [upd_same, upd_ne], by simp (disch := omega) only [upd_same, upd_ne]⟩
    rintro fr s ⟨h, rfl, h5, h17⟩
    simp only [onN]
    repeat apply W.seq
    refine W.cond (b := true) ?_ ?_
    · simp (disch := omega) only [ev_tmp, get_of, upd_same, upd_ne, h17, decide_true, decide_false]
    simp only [cond_true, cond_false]
    repeat apply W.seq
    apply W.region
    · simp (disch := first | omega | (simp (disch := omega) [ev_tmp, ev_const, get_of, upd_same, upd_ne, h5, Tryd.underlying3, Tryd.underlying9, Tryd.underlying4]; done) | (apply inK_i64; omega) | (apply inK_u64; omega)) only [op_len, cond_true, cond_false, pick_on, stepC_if, goC_true, goC_false, guard_tt, guard_tf, guard_ft, guard_ff, slot_zero, slot_succ, put_some, runC_cons, runC_nil, stepC_free, dstC_dst, dstC_none, thenC_some, cop_assign, cop_move, cop_conv, cop_bin, cop_un, cop_pick, cop_index, cop_indexAddr, cop_load, cop_store, cop_alloc, cop_box, cop_build, cop_slice, cop_s2a, cop_field, cop_fieldAddr, cop_extract, cop_nilCheck, cop_call, cop_builtin, cop_buildSlice, ev_tmp, ev_const, ev_global, ev_func, put_of, get_of, upd_same, upd_ne, List.toList_toArray, List.map_cons, List.map_nil, some_map, none_map, ti3, ti4, h5]
      with_reducible rfl
    simp only [onN, onB]
    apply W.ret
    refine ⟨.inr rfl, [.bool true], ?_⟩
    apply Exists.intro
    apply And.intro
    · simp (disch := omega) only [resC, Tryd.results6, get_of, upd_same]
      all_goals rfl
    · rfl
  have hn1 : ¬ (400 : Int) < a.size := fun h => hbig (.inl h)
  have hn2 : ¬ (400 : Int) < b.size := fun h => hbig (.inr h)
  have x1 : decide ((400 : Int) < a.size) = false := decide_eq_false hn1
  have x2 : decide ((400 : Int) < b.size) = false := decide_eq_false hn2
  repeat apply W.seq
  apply W.region
  · simp (disch := first | omega | (simp (disch := omega) [ev_tmp, ev_const, get_of, upd_same, upd_ne, Tryd.underlying3, Tryd.underlying9, Tryd.underlying4]; done) | (apply inK_i64; omega) | (apply inK_u64; omega)) only [op_len, cond_true, cond_false, pick_on, stepC_if, goC_true, goC_false, guard_tt, guard_tf, guard_ft, guard_ff, slot_zero, slot_succ, put_some, runC_cons, runC_nil, stepC_free, dstC_dst, dstC_none, thenC_some, cop_assign, cop_move, cop_conv, cop_bin, cop_un, cop_pick, cop_index, cop_indexAddr, cop_load, cop_store, cop_alloc, cop_box, cop_build, cop_slice, cop_s2a, cop_field, cop_fieldAddr, cop_extract, cop_nilCheck, cop_call, cop_builtin, cop_buildSlice, ev_tmp, ev_const, ev_global, ev_func, put_of, get_of, upd_same, upd_ne, List.toList_toArray, List.map_cons, List.map_nil, some_map, none_map, ti3, ti4, oi_gtr, len_str (ti9 axH), x1, x2]
    with_reducible rfl
  simp only [onN, onB]
  repeat apply W.seq
  refine W.cond (b := false) ?_ ?_
  · simp (disch := omega) only [ev_tmp, get_of, upd_same, upd_ne, cond_true, decide_true, decide_false]
  simp only [cond_true, cond_false]
  apply W.skip
  simp only [onN, onB]
  obtain ⟨n1, g1, rd1, e1, a1, a2, -⟩ := mac_run axH axH_plain axH_comp a b (by omega) (by omega) n g 0 (ins 0 [] 1) [] (Nat.zero_le _) hG hkw
  repeat apply W.seq
  apply W.region
  · simp (disch := first | omega | (simp (disch := omega) [ev_tmp, ev_const, get_of, upd_same, upd_ne, Tryd.underlying3, Tryd.underlying9, Tryd.underlying4]; done) | (apply inK_i64; omega) | (apply inK_u64; omega)) only [op_len, cond_true, cond_false, pick_on, stepC_if, goC_true, goC_false, guard_tt, guard_tf, guard_ft, guard_ff, slot_zero, slot_succ, put_some, runC_cons, runC_nil, stepC_free, dstC_dst, dstC_none, thenC_some, cop_assign, cop_move, cop_conv, cop_bin, cop_un, cop_pick, cop_index, cop_indexAddr, cop_load, cop_store, cop_alloc, cop_box, cop_build, cop_slice, cop_s2a, cop_field, cop_fieldAddr, cop_extract, cop_nilCheck, cop_call, cop_builtin, cop_buildSlice, ev_tmp, ev_const, ev_global, ev_func, put_of, get_of, upd_same, upd_ne, List.toList_toArray, List.map_cons, List.map_nil, some_map, none_map, ti3, ti4, e1]
    with_reducible rfl
  simp only [onN, onB]
  repeat apply W.seq
  apply W.region
  · simp (disch := first | omega | (simp (disch := omega) [ev_tmp, ev_const, get_of, upd_same, upd_ne, Tryd.underlying3, Tryd.underlying9, Tryd.underlying4]; done) | (apply inK_i64; omega) | (apply inK_u64; omega)) only [op_len, cond_true, cond_false, pick_on, stepC_if, goC_true, goC_false, guard_tt, guard_tf, guard_ft, guard_ff, slot_zero, slot_succ, put_some, runC_cons, runC_nil, stepC_free, dstC_dst, dstC_none, thenC_some, cop_assign, cop_move, cop_conv, cop_bin, cop_un, cop_pick, cop_index, cop_indexAddr, cop_load, cop_store, cop_alloc, cop_box, cop_build, cop_slice, cop_s2a, cop_field, cop_fieldAddr, cop_extract, cop_nilCheck, cop_call, cop_builtin, cop_buildSlice, ev_tmp, ev_const, ev_global, ev_func, put_of, get_of, upd_same, upd_ne, List.toList_toArray, List.map_cons, List.map_nil, some_map, none_map, ti3, ti4, oi_gtr, len_str (ti9 axH)]
    with_reducible rfl
  simp only [onN, onB]
  by_cases h64 : (64 : Int) < a.size
  · have CB := fun ρ o => conv_bytes (P := Tryd.prog) (Γ := EE axH) (ρ := ρ) (o := o) (n := n1) (g := g1) (lim := 0) (rd := rd1) (wr := []) (x := a) (ti9 axH) (ti22 axH) (ti5 axH) (by omega)
    generalize hgb : fupd g1 n1 ⟨false, [(n1 * 1024 + 2, byteVs a)], none⟩ = gb at CB
    have b0 : ∀ i, i < n → gb i = g i := fun i hi => by rw [← hgb, fupd_ne _ _ _ _ (by omega), a2 _ hi]
    have hba : ByteArg gb (n1 + 1) (some (mkA n1 (n1 * 1024 + 2) 0)) a.size a.data.toList := by
      refine ⟨str_len a, .inr ⟨n1, n1 * 1024 + 2, 0, byteVs a, rfl, by omega, ?_, ?_, ?_⟩⟩
      · rw [← hgb, fupd_same]; exact rowOf_one
      · rw [byteVs_eq, bvs_len, str_len]; omega
      · rw [byteVs_eq, List.drop_zero, List.take_of_length_le (by rw [bvs_len, str_len]; omega)]
    obtain ⟨n2, g2, rd2, e2, d1, d2, -⟩ := hsum_run axH axH_plain axH_comp (some (mkA n1 (n1 * 1024 + 2) 0)) a.size a.size a.data.toList (by omega) (n1 + 1) gb 0 rd1 [] (Nat.zero_le _) hba (by omega) (by rw [b0 _ hG]; exact hkw)
    obtain ⟨n3, g3, rd3, e3, f1, f2, -⟩ := b32_run axH axH_plain (sha a.data.toList) (sha_len _) n2 g2 0 rd2 [] (Nat.zero_le _)
    obtain ⟨n4, g4, rd4, e4, i1, i2, -⟩ := mac_run axH axH_plain axH_comp ⟨(sha a.data.toList).toArray⟩ b (by rw [mk_size, sha_len]; omega) (by omega) n3 g3 0 rd3 [] (Nat.zero_le _) (by omega) (by rw [f2 _ (by omega), d2 _ (by omega), b0 _ hG]; exact hkw)
    rw [mk_list, mac_long _ _ (by rw [str_len]; omega)] at e4
    repeat apply W.seq
    refine W.cond (b := true) ?_ ?_
    · simp (disch := omega) only [ev_tmp, get_of, upd_same, upd_ne, h64, decide_true, decide_false]
    simp only [cond_true, cond_false]
    repeat apply W.seq
    apply W.region
    · simp (disch := first | omega | (simp (disch := omega) [ev_tmp, ev_const, get_of, upd_same, upd_ne, Tryd.underlying3, Tryd.underlying9, Tryd.underlying4]; done) | (apply inK_i64; omega) | (apply inK_u64; omega)) only [op_len, cond_true, cond_false, pick_on, stepC_if, goC_true, goC_false, guard_tt, guard_tf, guard_ft, guard_ff, slot_zero, slot_succ, put_some, runC_cons, runC_nil, stepC_free, dstC_dst, dstC_none, thenC_some, cop_assign, cop_move, cop_conv, cop_bin, cop_un, cop_pick, cop_index, cop_indexAddr, cop_load, cop_store, cop_alloc, cop_box, cop_build, cop_slice, cop_s2a, cop_field, cop_fieldAddr, cop_extract, cop_nilCheck, cop_call, cop_builtin, cop_buildSlice, ev_tmp, ev_const, ev_global, ev_func, put_of, get_of, upd_same, upd_ne, List.toList_toArray, List.map_cons, List.map_nil, some_map, none_map, ti3, ti4, CB, e2, e3]
      with_reducible rfl
    simp only [onN, onB]
    repeat apply W.seq
    apply W.region
    · simp (disch := first | omega | (simp (disch := omega) [ev_tmp, ev_const, get_of, upd_same, upd_ne, Tryd.underlying3, Tryd.underlying9, Tryd.underlying4]; done) | (apply inK_i64; omega) | (apply inK_u64; omega)) only [op_len, cond_true, cond_false, pick_on, stepC_if, goC_true, goC_false, guard_tt, guard_tf, guard_ft, guard_ff, slot_zero, slot_succ, put_some, runC_cons, runC_nil, stepC_free, dstC_dst, dstC_none, thenC_some, cop_assign, cop_move, cop_conv, cop_bin, cop_un, cop_pick, cop_index, cop_indexAddr, cop_load, cop_store, cop_alloc, cop_box, cop_build, cop_slice, cop_s2a, cop_field, cop_fieldAddr, cop_extract, cop_nilCheck, cop_call, cop_builtin, cop_buildSlice, ev_tmp, ev_const, ev_global, ev_func, put_of, get_of, upd_same, upd_ne, List.toList_toArray, List.map_cons, List.map_nil, some_map, none_map, ti3, ti4, e4, os_eql, decide_true]
      with_reducible rfl
    simp only [onN, onB]
    apply W.ret
    refine ⟨.inr rfl, [.bool true], ?_⟩
    apply Exists.intro
    apply And.intro
    · simp (disch := omega) only [resC, Tryd.results6, get_of, upd_same]
      all_goals rfl
    · rfl
  repeat apply W.seq
  refine W.cond (b := false) ?_ ?_
  · simp (disch := omega) only [ev_tmp, get_of, upd_same, upd_ne, h64, decide_true, decide_false]
  simp only [cond_true, cond_false]
  apply W.skip
  simp only [onN, onB]
  repeat apply W.seq
  apply W.region
  · simp (disch := first | omega | (simp (disch := omega) [ev_tmp, ev_const, get_of, upd_same, upd_ne, Tryd.underlying3, Tryd.underlying9, Tryd.underlying4]; done) | (apply inK_i64; omega) | (apply inK_u64; omega)) only [op_len, cond_true, cond_false, pick_on, stepC_if, goC_true, goC_false, guard_tt, guard_tf, guard_ft, guard_ff, slot_zero, slot_succ, put_some, runC_cons, runC_nil, stepC_free, dstC_dst, dstC_none, thenC_some, cop_assign, cop_move, cop_conv, cop_bin, cop_un, cop_pick, cop_index, cop_indexAddr, cop_load, cop_store, cop_alloc, cop_box, cop_build, cop_slice, cop_s2a, cop_field, cop_fieldAddr, cop_extract, cop_nilCheck, cop_call, cop_builtin, cop_buildSlice, ev_tmp, ev_const, ev_global, ev_func, put_of, get_of, upd_same, upd_ne, List.toList_toArray, List.map_cons, List.map_nil, some_map, none_map, ti3, ti4, oi_lss, len_str (ti9 axH)]
    with_reducible rfl
  simp only [onN, onB]
  by_cases hl64 : (a.size : Int) < 64
  · have hsz : (a ++ ByteArray.mk #[0]).size = a.size + 1 := by rw [ByteArray.size_append]; rfl
    have hdl : (a ++ ByteArray.mk #[0]).data.toList = a.data.toList ++ [0] := by simp [ByteArray.data_append]
    have hsz1 : (ByteArray.mk #[0]).size = 1 := rfl
    obtain ⟨n4, g4, rd4, e4, i1, i2, -⟩ := mac_run axH axH_plain axH_comp (a ++ ByteArray.mk #[0]) b (by rw [hsz]; omega) (by omega) n1 g1 0 rd1 [] (Nat.zero_le _) (by omega) (by rw [a2 _ hG]; exact hkw)
    rw [hdl, mac_short _ _ (by rw [str_len]; omega)] at e4
    repeat apply W.seq
    refine W.cond (b := true) ?_ ?_
    · simp (disch := omega) only [ev_tmp, get_of, upd_same, upd_ne, hl64, decide_true, decide_false]
    simp only [cond_true, cond_false]
    repeat apply W.seq
    apply W.region
    · simp (disch := first | omega | (simp (disch := omega) [ev_tmp, ev_const, get_of, upd_same, upd_ne, Tryd.underlying3, Tryd.underlying9, Tryd.underlying4]; done) | (apply inK_i64; omega) | (apply inK_u64; omega) | (rw [hsz1]; omega)) only [op_len, cond_true, cond_false, pick_on, stepC_if, goC_true, goC_false, guard_tt, guard_tf, guard_ft, guard_ff, slot_zero, slot_succ, put_some, runC_cons, runC_nil, stepC_free, dstC_dst, dstC_none, thenC_some, cop_assign, cop_move, cop_conv, cop_bin, cop_un, cop_pick, cop_index, cop_indexAddr, cop_load, cop_store, cop_alloc, cop_box, cop_build, cop_slice, cop_s2a, cop_field, cop_fieldAddr, cop_extract, cop_nilCheck, cop_call, cop_builtin, cop_buildSlice, ev_tmp, ev_const, ev_global, ev_func, put_of, get_of, upd_same, upd_ne, List.toList_toArray, List.map_cons, List.map_nil, some_map, none_map, ti3, ti4, os_add, e4, os_eql, decide_true]
      with_reducible rfl
    simp only [onN, onB]
    apply W.ret
    refine ⟨.inr rfl, [.bool true], ?_⟩
    apply Exists.intro
    apply And.intro
    · simp (disch := omega) only [resC, Tryd.results6, get_of, upd_same]
      all_goals rfl
    · rfl
  repeat apply W.seq
  refine W.cond (b := false) ?_ ?_
  · simp (disch := omega) only [ev_tmp, get_of, upd_same, upd_ne, hl64, decide_true, decide_false]
  simp only [cond_true, cond_false]
  apply W.skip
  simp only [onN, onB]
  have hm : (ByteArray.mk (macB a.data.toList b.data.toList).toArray).size = 32 := by rw [mk_size, macB_len]
  have hm2 : decide (((32 : Nat) : Int) = 32) = true := rfl
  repeat apply W.seq
  apply W.region
  · simp (disch := first | omega | (simp (disch := omega) [ev_tmp, ev_const, get_of, upd_same, upd_ne, Tryd.underlying3, Tryd.underlying9, Tryd.underlying4]; done) | (apply inK_i64; omega) | (apply inK_u64; omega)) only [op_len, cond_true, cond_false, pick_on, stepC_if, goC_true, goC_false, guard_tt, guard_tf, guard_ft, guard_ff, slot_zero, slot_succ, put_some, runC_cons, runC_nil, stepC_free, dstC_dst, dstC_none, thenC_some, cop_assign, cop_move, cop_conv, cop_bin, cop_un, cop_pick, cop_index, cop_indexAddr, cop_load, cop_store, cop_alloc, cop_box, cop_build, cop_slice, cop_s2a, cop_field, cop_fieldAddr, cop_extract, cop_nilCheck, cop_call, cop_builtin, cop_buildSlice, ev_tmp, ev_const, ev_global, ev_func, put_of, get_of, upd_same, upd_ne, List.toList_toArray, List.map_cons, List.map_nil, some_map, none_map, ti3, ti4, len_str (ti9 axH), hm, oi_eql, hm2]
    with_reducible rfl
  simp only [onN, onB]
  apply W.ret
  refine ⟨.inr rfl, [.bool true], ?_⟩
  apply Exists.intro
  apply And.intro
  · simp (disch := omega) only [resC, Tryd.results6, get_of, upd_same]
    all_goals rfl
  · rfl
end Go.Proofs.YtcmfoipnoejmlaaDoor
