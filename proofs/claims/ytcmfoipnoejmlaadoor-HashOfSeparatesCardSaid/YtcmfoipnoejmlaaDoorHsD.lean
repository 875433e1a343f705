/- interlaceref02.words in the plain machine. -/
import Derived.Test.YtcmfoipnoejmlaaDoorHsC
set_option linter.unusedSimpArgs false
set_option linter.unusedVariables false
set_option linter.unusedSectionVars false
namespace Go.Proofs.YtcmfoipnoejmlaaDoor
open Go Go.RowKit
set_option linter.unusedSimpArgs false
set_option linter.unusedVariables false
set_option maxRecDepth 100000
theorem shl_or (x y : UInt32) (n : Nat) : shl32 (x ||| y) n = shl32 x n ||| shl32 y n := by
  unfold shl32
  apply UInt32.toBitVec_inj.1
  show (x.toBitVec ||| y.toBitVec) <<< n = x.toBitVec <<< n ||| y.toBitVec <<< n
  exact BitVec.shiftLeft_or_distrib ..
theorem shl_shl (x : UInt32) (m n : Nat) : shl32 (shl32 x m) n = shl32 x (m + n) := by
  unfold shl32
  apply UInt32.toBitVec_inj.1
  show x.toBitVec <<< m <<< n = x.toBitVec <<< (m + n)
  exact (BitVec.shiftLeft_add ..).symm
theorem shl_zero (n : Nat) : shl32 0 n = 0 := by
  unfold shl32
  apply UInt32.toBitVec_inj.1
  show (0#32) <<< n = 0#32
  exact BitVec.zero_shiftLeft ..
theorem word_eq (bs : List UInt8) (t : Nat) : shl32 (bs.getD (4 * t) 0).toUInt32 24 ||| shl32 (bs.getD (4 * t + 1) 0).toUInt32 16 ||| shl32 (bs.getD (4 * t + 2) 0).toUInt32 8 ||| (bs.getD (4 * t + 3) 0).toUInt32 = word bs t 4 := by
  simp only [word, shl_zero, shl_or, shl_shl, UInt32.zero_or, Nat.reduceAdd, Nat.add_zero]
set_option maxHeartbeats 4000000 in
theorem words_run (ax : Axs) (hp : Plain ax) (bs : List UInt8) (fb ub off len cap : Nat) (n : Nat) (g : Nat → Fam) (lim : Nat) (rd wr : List Nat) (hl : lim ≤ n) (hb : BSl g n fb ub off len cap bs) (h64 : len = 64) :
    Ret Tryd.prog (EE ax) 51 [.slice (some (mkA fb ub off)) len cap] n g lim rd wr (fun i => i = fb) (.agg (wvs (sched bs 64)).toArray) := by
  have hax : ax 51 = none := hp _ (by decide)
  obtain ⟨cs, hrow, hcs⟩ := hb.row
  have hbl := hb.lt
  have hbc := hb.fits
  refine Ret.of (fn := Tryd.f51) 101 hax (fn51 ax) rfl Tryd.ntmps51 (by simp) ?_
  simp (disch := omega) only [ofArgs_cons, ofArgs_nil, Nat.reduceAdd]
  repeat apply W.seq
  apply W.region
  · simp (disch := first | omega | (simp (disch := omega) [ev_tmp, ev_const, get_of, upd_same, upd_ne, Tryd.underlying3, Tryd.underlying83, Tryd.underlying5, Tryd.underlying29, Tryd.underlying22]; done) | (apply inK_i64; omega) | (apply inK_u64; omega)) only [op_len, cond_true, cond_false, pick_on, stepC_if, goC_true, goC_false, guard_tt, guard_tf, guard_ft, guard_ff, slot_zero, slot_succ, put_some, runC_cons, runC_nil, stepC_free, dstC_dst, dstC_none, thenC_some, cop_assign, cop_move, cop_conv, cop_bin, cop_un, cop_pick, cop_index, cop_indexAddr, cop_load, cop_store, cop_alloc, cop_box, cop_build, cop_slice, cop_s2a, cop_field, cop_fieldAddr, cop_extract, cop_nilCheck, cop_call, cop_builtin, cop_buildSlice, ev_tmp, ev_const, ev_global, ev_func, put_of, get_of, upd_same, upd_ne, List.toList_toArray, List.map_cons, List.map_nil, some_map, none_map, ti3, ti83, ti5, ti29, alloc_st (ti75 ax)]
    with_reducible rfl
  simp only [onN, onB]
  repeat apply W.seq
  apply W.region
  · simp (disch := first | omega | (simp (disch := omega) [ev_tmp, ev_const, get_of, upd_same, upd_ne, Tryd.underlying3, Tryd.underlying83, Tryd.underlying5, Tryd.underlying29, Tryd.underlying22]; done) | (apply inK_i64; omega) | (apply inK_u64; omega)) only [op_len, cond_true, cond_false, pick_on, stepC_if, goC_true, goC_false, guard_tt, guard_tf, guard_ft, guard_ff, slot_zero, slot_succ, put_some, runC_cons, runC_nil, stepC_free, dstC_dst, dstC_none, thenC_some, cop_assign, cop_move, cop_conv, cop_bin, cop_un, cop_pick, cop_index, cop_indexAddr, cop_load, cop_store, cop_alloc, cop_box, cop_build, cop_slice, cop_s2a, cop_field, cop_fieldAddr, cop_extract, cop_nilCheck, cop_call, cop_builtin, cop_buildSlice, ev_tmp, ev_const, ev_global, ev_func, put_of, get_of, upd_same, upd_ne, List.toList_toArray, List.map_cons, List.map_nil, some_map, none_map, ti3, ti83, ti5, ti29, alloc_st (ti75 ax)]
    with_reducible rfl
  simp only [onN, onB]
  have IG := fun l => ins_ge (m := lim) (f := n + 1) l (by omega)
  apply W.seq
  refine W.cut (fun fr s => ∃ (t : Nat) (h : Nat → Value) (g' : Nat → Fam) (rd' : List Nat), t = 16 ∧ fr = Fr.of 101 h ∧ s = St (n + 2) g' lim rd' wr ∧ h 0 = .slice (some (mkA fb ub off)) len cap ∧ h 2 = .pointer (some (mkA n (n * 1024 + 0) 0)) ∧ h 3 = .pointer (some (mkA (n + 1) ((n + 1) * 1024 + 0) 0)) ∧ g' (n + 1) = ⟨false, [((n + 1) * 1024 + 0, wvs (sched bs t))], none⟩ ∧ g' n = ⟨false, [(n * 1024 + 0, List.replicate 64 (vw 0))], none⟩ ∧ (∀ i, i < n → g' i = g i) ∧ (∀ x, x ∈ rd' → x ∈ rd ∨ (x = fb ∧ x < lim))) ?_ ?_
  · skip
    repeat apply W.seq
    apply W.region
    · simp (disch := first | omega | (simp (disch := omega) [ev_tmp, ev_const, get_of, upd_same, upd_ne, Tryd.underlying3, Tryd.underlying83, Tryd.underlying5, Tryd.underlying29, Tryd.underlying22]; done) | (apply inK_i64; omega) | (apply inK_u64; omega)) only [op_len, cond_true, cond_false, pick_on, stepC_if, goC_true, goC_false, guard_tt, guard_tf, guard_ft, guard_ff, slot_zero, slot_succ, put_some, runC_cons, runC_nil, stepC_free, dstC_dst, dstC_none, thenC_some, cop_assign, cop_move, cop_conv, cop_bin, cop_un, cop_pick, cop_index, cop_indexAddr, cop_load, cop_store, cop_alloc, cop_box, cop_build, cop_slice, cop_s2a, cop_field, cop_fieldAddr, cop_extract, cop_nilCheck, cop_call, cop_builtin, cop_buildSlice, ev_tmp, ev_const, ev_global, ev_func, put_of, get_of, upd_same, upd_ne, List.toList_toArray, List.map_cons, List.map_nil, some_map, none_map, ti3, ti83, ti5, ti29]
      with_reducible rfl
    simp only [onN, onB]
    repeat apply W.seq
    apply W.block
    refine W.loop (fun m fr s => ∃ (t : Nat) (h : Nat → Value) (g' : Nat → Fam) (rd' : List Nat), t ≤ 16 ∧ m = 16 - t ∧ fr = Fr.of 101 h ∧ s = St (n + 2) g' lim rd' wr ∧ h 0 = .slice (some (mkA fb ub off)) len cap ∧ h 2 = .pointer (some (mkA n (n * 1024 + 0) 0)) ∧ h 3 = .pointer (some (mkA (n + 1) ((n + 1) * 1024 + 0) 0)) ∧ h 4 = .int .i64 (t : Int) ∧ g' (n + 1) = ⟨false, [((n + 1) * 1024 + 0, wvs (sched bs t))], none⟩ ∧ g' n = ⟨false, [(n * 1024 + 0, List.replicate 64 (vw 0))], none⟩ ∧ (∀ i, i < n → g' i = g i) ∧ (∀ x, x ∈ rd' → x ∈ rd ∨ (x = fb ∧ x < lim))) ?_ (16 - 0) _ _ ⟨0, _, _, rd, by omega, rfl, rfl, rfl, ?_, ?_, ?_, ?_, ?_, ?_, ?_, fun x hx => .inl hx⟩
    case refine_2 => simp (disch := omega) only [upd_same, upd_ne]
    case refine_3 => simp (disch := omega) only [upd_same, upd_ne]
    case refine_4 => simp (disch := omega) only [upd_same, upd_ne]
    case refine_5 => simp (disch := omega) only [upd_same, upd_ne]; rfl
    case refine_6 => rw [fupd_same]; rfl
    case refine_7 => rw [fupd_ne _ _ _ _ (by omega), fupd_same]; rfl
    case refine_8 => intro i hi; rw [fupd_ne _ _ _ _ (by omega), fupd_ne _ _ _ _ (by omega)]
    rintro m fr s ⟨t, h, g', rd', ht, rfl, rfl, rfl, h0, h2, h3, h4, hw, hz, hg, hrd⟩
    repeat apply W.seq
    apply W.region
    · simp (disch := first | omega | (simp (disch := omega) [ev_tmp, ev_const, get_of, upd_same, upd_ne, h4, Tryd.underlying3, Tryd.underlying83, Tryd.underlying5, Tryd.underlying29, Tryd.underlying22]; done) | (apply inK_i64; omega) | (apply inK_u64; omega)) only [op_len, cond_true, cond_false, pick_on, stepC_if, goC_true, goC_false, guard_tt, guard_tf, guard_ft, guard_ff, slot_zero, slot_succ, put_some, runC_cons, runC_nil, stepC_free, dstC_dst, dstC_none, thenC_some, cop_assign, cop_move, cop_conv, cop_bin, cop_un, cop_pick, cop_index, cop_indexAddr, cop_load, cop_store, cop_alloc, cop_box, cop_build, cop_slice, cop_s2a, cop_field, cop_fieldAddr, cop_extract, cop_nilCheck, cop_call, cop_builtin, cop_buildSlice, ev_tmp, ev_const, ev_global, ev_func, put_of, get_of, upd_same, upd_ne, List.toList_toArray, List.map_cons, List.map_nil, some_map, none_map, ti3, ti83, ti5, ti29, oi_lss, h4]
      with_reducible rfl
    simp only [onN, onB]
    by_cases hlt : (t : Int) < 16
    case neg =>
      repeat apply W.seq
      refine W.cond (b := false) ?_ ?_
      · simp (disch := omega) only [ev_tmp, get_of, upd_same, upd_ne, hlt, decide_true, decide_false]
      simp only [cond_true, cond_false]
      apply W.exit
      simp only [onN, onB, Nat.beq_refl, cond_true]
      exact ⟨by first | rfl | trivial, t, _, g', rd', by omega, rfl, rfl, by simp (disch := omega) only [upd_same, upd_ne, h0], by simp (disch := omega) only [upd_same, upd_ne, h2], by simp (disch := omega) only [upd_same, upd_ne, h3], hw, hz, hg, hrd⟩
    have htl : t < 16 := by omega
    repeat apply W.seq
    refine W.cond (b := true) ?_ ?_
    · simp (disch := omega) only [ev_tmp, get_of, upd_same, upd_ne, hlt, decide_true, decide_false]
    simp only [cond_true, cond_false]
    apply W.skip
    simp only [onN, onB]
    have c0 : (4 : Int) * (t : Int) = ((4 * t : Nat) : Int) := by omega
    have c1 : ((4 * t : Nat) : Int) + 1 = ((4 * t + 1 : Nat) : Int) := by omega
    have c2 : ((4 * t : Nat) : Int) + 2 = ((4 * t + 2 : Nat) : Int) := by omega
    have c3 : ((4 * t : Nat) : Int) + 3 = ((4 * t + 3 : Nat) : Int) := by omega
    have LB := fun (k : Nat) (hk : k < 64) => ld_q (n := n + 2) (ti5 ax) rfl (g := g') (f := fb) (u := ub) (off := off + k) (cs := cs) (by rw [hg fb hbl]; exact hrow) (hcs k (by omega)) (by omega)
    have C1 := fun v hv => st_q (n := n + 2) (ti29 ax) (g := g') (f := n + 1) (u := (n + 1) * 1024 + 0) (off := 0 + t) (v := v) hw (by rw [wvs_len, sched_len]; omega) hv (by omega)
    repeat apply W.seq
    apply W.block
    repeat apply W.seq
    apply W.last
    · kernel_rfl
    · simp (disch := first | omega | (simp (disch := omega) [ev_tmp, ev_const, get_of, upd_same, upd_ne, h0, h3, h4, Tryd.underlying3, Tryd.underlying83, Tryd.underlying5, Tryd.underlying29, Tryd.underlying22]; done) | (apply inK_i64; omega) | (apply inK_u64; omega) | (rw [c0]; apply inK_i64; omega) | (rw [c1]; apply inK_i64; omega) | (rw [c2]; apply inK_i64; omega) | (rw [c3]; apply inK_i64; omega)) only [op_len, cond_true, cond_false, pick_on, stepC_if, goC_true, goC_false, guard_tt, guard_tf, guard_ft, guard_ff, slot_zero, slot_succ, put_some, runC_cons, runC_nil, stepC_free, dstC_dst, dstC_none, thenC_some, cop_assign, cop_move, cop_conv, cop_bin, cop_un, cop_pick, cop_index, cop_indexAddr, cop_load, cop_store, cop_alloc, cop_box, cop_build, cop_slice, cop_s2a, cop_field, cop_fieldAddr, cop_extract, cop_nilCheck, cop_call, cop_builtin, cop_buildSlice, ev_tmp, ev_const, ev_global, ev_func, put_of, get_of, upd_same, upd_ne, List.toList_toArray, List.map_cons, List.map_nil, some_map, none_map, ti3, ti83, ti5, ti29, quietL_cons, quietL_one, inner_st, thenL_same, thenL_rd, lastL_some, insAll_nil, insAll_cons, h0, h3, h4, oi_mul, c0, oi_add, c1, c2, c3, natOf_nat, idx_sl (ti22 ax) (ti5 ax) (show 4 * t < len by omega), idx_sl (ti22 ax) (ti5 ax) (show 4 * t + 1 < len by omega), idx_sl (ti22 ax) (ti5 ax) (show 4 * t + 2 < len by omega), idx_sl (ti22 ax) (ti5 ax) (show 4 * t + 3 < len by omega), LB (4 * t) (by omega), LB (4 * t + 1) (by omega), LB (4 * t + 2) (by omega), LB (4 * t + 3) (by omega), conv_bw (ti5 ax) (ti29 ax), bw_shl_l, bw_or, idx_arr (ti75 ax) (ti29 ax) (show t < 64 by omega), cells_vw, word_eq bs t, C1 _ (vw_one _), IG]
      with_reducible rfl
    simp only [onN, onB]
    repeat apply W.seq
    apply W.region
    · simp (disch := first | omega | (simp (disch := omega) [ev_tmp, ev_const, get_of, upd_same, upd_ne, h4, Tryd.underlying3, Tryd.underlying83, Tryd.underlying5, Tryd.underlying29, Tryd.underlying22]; done) | (apply inK_i64; omega) | (apply inK_u64; omega)) only [op_len, cond_true, cond_false, pick_on, stepC_if, goC_true, goC_false, guard_tt, guard_tf, guard_ft, guard_ff, slot_zero, slot_succ, put_some, runC_cons, runC_nil, stepC_free, dstC_dst, dstC_none, thenC_some, cop_assign, cop_move, cop_conv, cop_bin, cop_un, cop_pick, cop_index, cop_indexAddr, cop_load, cop_store, cop_alloc, cop_box, cop_build, cop_slice, cop_s2a, cop_field, cop_fieldAddr, cop_extract, cop_nilCheck, cop_call, cop_builtin, cop_buildSlice, ev_tmp, ev_const, ev_global, ev_func, put_of, get_of, upd_same, upd_ne, List.toList_toArray, List.map_cons, List.map_nil, some_map, none_map, ti3, ti83, ti5, ti29, oi_add, h4]
      with_reducible rfl
    simp only [onN, onB]
    refine ⟨16 - (t + 1), by omega, t + 1, _, _, _, by omega, rfl, rfl, rfl, ?_, ?_, ?_, ?_, ?_, ?_, ?_, ?_⟩
    · simp (disch := omega) only [upd_same, upd_ne, h0]
    · simp (disch := omega) only [upd_same, upd_ne, h2]
    · simp (disch := omega) only [upd_same, upd_ne, h3]
    · simp (disch := omega) only [upd_same, upd_ne]; rfl
    · rw [fupd_same, Nat.zero_add, wvs_set, sched, if_pos (by omega)]
    · rw [fupd_ne _ _ _ _ (by omega)]; exact hz
    · intro i hi; rw [fupd_ne _ _ _ _ (by omega)]; exact hg i hi
    · intro x hx
      rcases mem_ins hx with hx | hx
      · rcases mem_ins hx with hx | hx
        · rcases mem_ins hx with hx | hx
          · rcases mem_ins hx with hx | hx
            · exact hrd x hx
            · exact .inr hx
          · exact .inr hx
        · exact .inr hx
      · exact .inr hx
  rintro fr s ⟨t, h, g', rd', rfl, rfl, rfl, h0, h2, h3, hw, hz, hg, hrd⟩
  apply W.seq
  refine W.cut (fun fr s => ∃ (t : Nat) (h : Nat → Value) (g' : Nat → Fam) (rd' : List Nat), t = 64 ∧ fr = Fr.of 101 h ∧ s = St (n + 2) g' lim rd' wr ∧ h 0 = .slice (some (mkA fb ub off)) len cap ∧ h 2 = .pointer (some (mkA n (n * 1024 + 0) 0)) ∧ h 3 = .pointer (some (mkA (n + 1) ((n + 1) * 1024 + 0) 0)) ∧ g' (n + 1) = ⟨false, [((n + 1) * 1024 + 0, wvs (sched bs t))], none⟩ ∧ g' n = ⟨false, [(n * 1024 + 0, List.replicate 64 (vw 0))], none⟩ ∧ (∀ i, i < n → g' i = g i) ∧ (∀ x, x ∈ rd' → x ∈ rd ∨ (x = fb ∧ x < lim))) ?_ ?_
  · skip
    repeat apply W.seq
    apply W.region
    · simp (disch := first | omega | (simp (disch := omega) [ev_tmp, ev_const, get_of, upd_same, upd_ne, Tryd.underlying3, Tryd.underlying83, Tryd.underlying5, Tryd.underlying29, Tryd.underlying22]; done) | (apply inK_i64; omega) | (apply inK_u64; omega)) only [op_len, cond_true, cond_false, pick_on, stepC_if, goC_true, goC_false, guard_tt, guard_tf, guard_ft, guard_ff, slot_zero, slot_succ, put_some, runC_cons, runC_nil, stepC_free, dstC_dst, dstC_none, thenC_some, cop_assign, cop_move, cop_conv, cop_bin, cop_un, cop_pick, cop_index, cop_indexAddr, cop_load, cop_store, cop_alloc, cop_box, cop_build, cop_slice, cop_s2a, cop_field, cop_fieldAddr, cop_extract, cop_nilCheck, cop_call, cop_builtin, cop_buildSlice, ev_tmp, ev_const, ev_global, ev_func, put_of, get_of, upd_same, upd_ne, List.toList_toArray, List.map_cons, List.map_nil, some_map, none_map, ti3, ti83, ti5, ti29]
      with_reducible rfl
    simp only [onN, onB]
    repeat apply W.seq
    apply W.block
    refine W.loop (fun m fr s => ∃ (t : Nat) (h : Nat → Value) (g' : Nat → Fam) (rd' : List Nat), 16 ≤ t ∧ t ≤ 64 ∧ m = 64 - t ∧ fr = Fr.of 101 h ∧ s = St (n + 2) g' lim rd' wr ∧ h 0 = .slice (some (mkA fb ub off)) len cap ∧ h 2 = .pointer (some (mkA n (n * 1024 + 0) 0)) ∧ h 3 = .pointer (some (mkA (n + 1) ((n + 1) * 1024 + 0) 0)) ∧ h 5 = .int .i64 (t : Int) ∧ g' (n + 1) = ⟨false, [((n + 1) * 1024 + 0, wvs (sched bs t))], none⟩ ∧ g' n = ⟨false, [(n * 1024 + 0, List.replicate 64 (vw 0))], none⟩ ∧ (∀ i, i < n → g' i = g i) ∧ (∀ x, x ∈ rd' → x ∈ rd ∨ (x = fb ∧ x < lim))) ?_ (64 - 16) _ _ ⟨16, _, _, rd', by omega, by omega, rfl, rfl, rfl, ?_, ?_, ?_, ?_, hw, hz, hg, hrd⟩
    case refine_2 => simp (disch := omega) only [upd_same, upd_ne, h0]
    case refine_3 => simp (disch := omega) only [upd_same, upd_ne, h2]
    case refine_4 => simp (disch := omega) only [upd_same, upd_ne, h3]
    case refine_5 => simp (disch := omega) only [upd_same, upd_ne]; rfl
    clear h0 h2 h3 hw hz hg hrd
    rintro m fr s ⟨t, h, g', rd', ht16, ht, rfl, rfl, rfl, h0, h2, h3, h5, hw, hz, hg, hrd⟩
    repeat apply W.seq
    apply W.region
    · simp (disch := first | omega | (simp (disch := omega) [ev_tmp, ev_const, get_of, upd_same, upd_ne, h5, Tryd.underlying3, Tryd.underlying83, Tryd.underlying5, Tryd.underlying29, Tryd.underlying22]; done) | (apply inK_i64; omega) | (apply inK_u64; omega)) only [op_len, cond_true, cond_false, pick_on, stepC_if, goC_true, goC_false, guard_tt, guard_tf, guard_ft, guard_ff, slot_zero, slot_succ, put_some, runC_cons, runC_nil, stepC_free, dstC_dst, dstC_none, thenC_some, cop_assign, cop_move, cop_conv, cop_bin, cop_un, cop_pick, cop_index, cop_indexAddr, cop_load, cop_store, cop_alloc, cop_box, cop_build, cop_slice, cop_s2a, cop_field, cop_fieldAddr, cop_extract, cop_nilCheck, cop_call, cop_builtin, cop_buildSlice, ev_tmp, ev_const, ev_global, ev_func, put_of, get_of, upd_same, upd_ne, List.toList_toArray, List.map_cons, List.map_nil, some_map, none_map, ti3, ti83, ti5, ti29, oi_lss, h5]
      with_reducible rfl
    simp only [onN, onB]
    by_cases hlt : (t : Int) < 64
    case neg =>
      repeat apply W.seq
      refine W.cond (b := false) ?_ ?_
      · simp (disch := omega) only [ev_tmp, get_of, upd_same, upd_ne, hlt, decide_true, decide_false]
      simp only [cond_true, cond_false]
      apply W.exit
      simp only [onN, onB, Nat.beq_refl, cond_true]
      exact ⟨by first | rfl | trivial, t, _, g', rd', by omega, rfl, rfl, by simp (disch := omega) only [upd_same, upd_ne, h0], by simp (disch := omega) only [upd_same, upd_ne, h2], by simp (disch := omega) only [upd_same, upd_ne, h3], hw, hz, hg, hrd⟩
    have htl : t < 64 := by omega
    repeat apply W.seq
    refine W.cond (b := true) ?_ ?_
    · simp (disch := omega) only [ev_tmp, get_of, upd_same, upd_ne, hlt, decide_true, decide_false]
    simp only [cond_true, cond_false]
    apply W.skip
    simp only [onN, onB]
    have c15 : (t : Int) - 15 = ((t - 15 : Nat) : Int) := by omega
    have c2 : (t : Int) - 2 = ((t - 2 : Nat) : Int) := by omega
    have c16 : (t : Int) - 16 = ((t - 16 : Nat) : Int) := by omega
    have c7 : (t : Int) - 7 = ((t - 7 : Nat) : Int) := by omega
    have LQ := fun (k : Nat) (hk : k < 64) => ld_q (n := n + 2) (ti29 ax) rfl (g := g') (f := n + 1) (u := (n + 1) * 1024 + 0) (off := 0 + k) (cs := wvs (sched bs t)) (by rw [hw]; exact rowOf_one) (by rw [Nat.zero_add]; exact wvs_get (by rw [sched_len]; exact hk)) (by omega)
    have R7 : ∀ x s, callR Tryd.prog (EE ax) 52 [vw x, .int .i64 7] s = some (vw (rotr32 x 7), s) := fun x s => rotr_run ax hp x 7 (by omega) (by omega) s
    have R18 : ∀ x s, callR Tryd.prog (EE ax) 52 [vw x, .int .i64 18] s = some (vw (rotr32 x 18), s) := fun x s => rotr_run ax hp x 18 (by omega) (by omega) s
    have R17 : ∀ x s, callR Tryd.prog (EE ax) 52 [vw x, .int .i64 17] s = some (vw (rotr32 x 17), s) := fun x s => rotr_run ax hp x 17 (by omega) (by omega) s
    have R19 : ∀ x s, callR Tryd.prog (EE ax) 52 [vw x, .int .i64 19] s = some (vw (rotr32 x 19), s) := fun x s => rotr_run ax hp x 19 (by omega) (by omega) s
    repeat apply W.seq
    apply W.block
    repeat apply W.seq
    apply W.quiet
    · simp (disch := first | omega | (simp (disch := omega) [ev_tmp, ev_const, get_of, upd_same, upd_ne, h3, h5, Tryd.underlying3, Tryd.underlying83, Tryd.underlying5, Tryd.underlying29, Tryd.underlying22]; done) | (apply inK_i64; omega) | (apply inK_u64; omega)) only [op_len, cond_true, cond_false, pick_on, stepC_if, goC_true, goC_false, guard_tt, guard_tf, guard_ft, guard_ff, slot_zero, slot_succ, put_some, runC_cons, runC_nil, stepC_free, dstC_dst, dstC_none, thenC_some, cop_assign, cop_move, cop_conv, cop_bin, cop_un, cop_pick, cop_index, cop_indexAddr, cop_load, cop_store, cop_alloc, cop_box, cop_build, cop_slice, cop_s2a, cop_field, cop_fieldAddr, cop_extract, cop_nilCheck, cop_call, cop_builtin, cop_buildSlice, ev_tmp, ev_const, ev_global, ev_func, put_of, get_of, upd_same, upd_ne, List.toList_toArray, List.map_cons, List.map_nil, some_map, none_map, ti3, ti83, ti5, ti29, quietC_cons, quietC_nil, inner_st, thenQ_same, thenQ_rd, h3, h5, oi_sub, c15, natOf_nat, idx_arr (ti75 ax) (ti29 ax) (show t - 15 < 64 by omega), LQ (t - 15) (by omega), R7, R18, bw_xor, bw_shr_l, IG]
      with_reducible rfl
    simp only [onN, onB]
    repeat apply W.seq
    apply W.quiet
    · simp (disch := first | omega | (simp (disch := omega) [ev_tmp, ev_const, get_of, upd_same, upd_ne, h3, h5, Tryd.underlying3, Tryd.underlying83, Tryd.underlying5, Tryd.underlying29, Tryd.underlying22]; done) | (apply inK_i64; omega) | (apply inK_u64; omega)) only [op_len, cond_true, cond_false, pick_on, stepC_if, goC_true, goC_false, guard_tt, guard_tf, guard_ft, guard_ff, slot_zero, slot_succ, put_some, runC_cons, runC_nil, stepC_free, dstC_dst, dstC_none, thenC_some, cop_assign, cop_move, cop_conv, cop_bin, cop_un, cop_pick, cop_index, cop_indexAddr, cop_load, cop_store, cop_alloc, cop_box, cop_build, cop_slice, cop_s2a, cop_field, cop_fieldAddr, cop_extract, cop_nilCheck, cop_call, cop_builtin, cop_buildSlice, ev_tmp, ev_const, ev_global, ev_func, put_of, get_of, upd_same, upd_ne, List.toList_toArray, List.map_cons, List.map_nil, some_map, none_map, ti3, ti83, ti5, ti29, quietC_cons, quietC_nil, inner_st, thenQ_same, thenQ_rd, h3, h5, oi_sub, c2, natOf_nat, idx_arr (ti75 ax) (ti29 ax) (show t - 2 < 64 by omega), LQ (t - 2) (by omega), R17, R19, bw_xor, bw_shr_l, IG]
      with_reducible rfl
    simp only [onN, onB]
    have C1 := fun v hv => st_q (n := n + 2) (ti29 ax) (g := g') (f := n + 1) (u := (n + 1) * 1024 + 0) (off := 0 + t) (v := v) hw (by rw [wvs_len, sched_len]; omega) hv (by omega)
    repeat apply W.seq
    apply W.last
    · kernel_rfl
    · simp (disch := first | omega | (simp (disch := omega) [ev_tmp, ev_const, get_of, upd_same, upd_ne, h3, h5, Tryd.underlying3, Tryd.underlying83, Tryd.underlying5, Tryd.underlying29, Tryd.underlying22]; done) | (apply inK_i64; omega) | (apply inK_u64; omega)) only [op_len, cond_true, cond_false, pick_on, stepC_if, goC_true, goC_false, guard_tt, guard_tf, guard_ft, guard_ff, slot_zero, slot_succ, put_some, runC_cons, runC_nil, stepC_free, dstC_dst, dstC_none, thenC_some, cop_assign, cop_move, cop_conv, cop_bin, cop_un, cop_pick, cop_index, cop_indexAddr, cop_load, cop_store, cop_alloc, cop_box, cop_build, cop_slice, cop_s2a, cop_field, cop_fieldAddr, cop_extract, cop_nilCheck, cop_call, cop_builtin, cop_buildSlice, ev_tmp, ev_const, ev_global, ev_func, put_of, get_of, upd_same, upd_ne, List.toList_toArray, List.map_cons, List.map_nil, some_map, none_map, ti3, ti83, ti5, ti29, quietL_cons, quietL_one, inner_st, thenL_same, thenL_rd, lastL_some, insAll_nil, insAll_cons, h3, h5, oi_sub, c16, c7, natOf_nat, idx_arr (ti75 ax) (ti29 ax) (show t - 16 < 64 by omega), idx_arr (ti75 ax) (ti29 ax) (show t - 7 < 64 by omega), idx_arr (ti75 ax) (ti29 ax) htl, LQ (t - 16) (by omega), LQ (t - 7) (by omega), IG, bw_add, cells_vw, C1 _ (vw_one _)]
      with_reducible rfl
    simp only [onN, onB]
    repeat apply W.seq
    apply W.region
    · simp (disch := first | omega | (simp (disch := omega) [ev_tmp, ev_const, get_of, upd_same, upd_ne, h5, Tryd.underlying3, Tryd.underlying83, Tryd.underlying5, Tryd.underlying29, Tryd.underlying22]; done) | (apply inK_i64; omega) | (apply inK_u64; omega)) only [op_len, cond_true, cond_false, pick_on, stepC_if, goC_true, goC_false, guard_tt, guard_tf, guard_ft, guard_ff, slot_zero, slot_succ, put_some, runC_cons, runC_nil, stepC_free, dstC_dst, dstC_none, thenC_some, cop_assign, cop_move, cop_conv, cop_bin, cop_un, cop_pick, cop_index, cop_indexAddr, cop_load, cop_store, cop_alloc, cop_box, cop_build, cop_slice, cop_s2a, cop_field, cop_fieldAddr, cop_extract, cop_nilCheck, cop_call, cop_builtin, cop_buildSlice, ev_tmp, ev_const, ev_global, ev_func, put_of, get_of, upd_same, upd_ne, List.toList_toArray, List.map_cons, List.map_nil, some_map, none_map, ti3, ti83, ti5, ti29, oi_add, h5]
      with_reducible rfl
    simp only [onN, onB]
    refine ⟨64 - (t + 1), by omega, t + 1, _, _, rd', by omega, by omega, rfl, rfl, rfl, ?_, ?_, ?_, ?_, ?_, ?_, ?_, hrd⟩
    · simp (disch := omega) only [upd_same, upd_ne, h0]
    · simp (disch := omega) only [upd_same, upd_ne, h2]
    · simp (disch := omega) only [upd_same, upd_ne, h3]
    · simp (disch := omega) only [upd_same, upd_ne]; rfl
    · rw [fupd_same, Nat.zero_add, wvs_set, sched, if_neg (by omega)]; rfl
    · rw [fupd_ne _ _ _ _ (by omega)]; exact hz
    · intro i hi; rw [fupd_ne _ _ _ _ (by omega)]; exact hg i hi
  clear h0 h2 h3 hw hz hg hrd
  rintro fr s ⟨t, h, g', rd', rfl, rfl, rfl, h0, h2, h3, hw, hz, hg, hrd⟩
  have L1 := ld_all (n := n + 2) (lim := lim) (rd := rd') (wr := wr) (ti75 ax) rfl (g := g') (f := n + 1) (u := (n + 1) * 1024 + 0) (cs := wvs (sched bs 64)) (by rw [hw]; exact rowOf_one) (by rw [wvs_len, sched_len])
  rw [ins_ge (f := n + 1) _ (by omega)] at L1
  have S1 := st_all (n := n + 2) (lim := lim) (rd := rd') (wr := wr) (ti75 ax) (f := n) (u := n * 1024 + 0) (vs := wvs (sched bs 64)) hz (by rw [wvs_len, sched_len]) (by simp) (wvs_one _)
  rw [ins_ge (f := n) _ (by omega)] at S1
  repeat apply W.seq
  apply W.region
  · simp (disch := first | omega | (simp (disch := omega) [ev_tmp, ev_const, get_of, upd_same, upd_ne, h2, h3, Tryd.underlying3, Tryd.underlying83, Tryd.underlying5, Tryd.underlying29, Tryd.underlying22]; done) | (apply inK_i64; omega) | (apply inK_u64; omega)) only [op_len, cond_true, cond_false, pick_on, stepC_if, goC_true, goC_false, guard_tt, guard_tf, guard_ft, guard_ff, slot_zero, slot_succ, put_some, runC_cons, runC_nil, stepC_free, dstC_dst, dstC_none, thenC_some, cop_assign, cop_move, cop_conv, cop_bin, cop_un, cop_pick, cop_index, cop_indexAddr, cop_load, cop_store, cop_alloc, cop_box, cop_build, cop_slice, cop_s2a, cop_field, cop_fieldAddr, cop_extract, cop_nilCheck, cop_call, cop_builtin, cop_buildSlice, ev_tmp, ev_const, ev_global, ev_func, put_of, get_of, upd_same, upd_ne, List.toList_toArray, List.map_cons, List.map_nil, some_map, none_map, ti3, ti83, ti5, ti29, h2, h3, L1, cells_agg, S1]
    with_reducible rfl
  simp only [onN, onB]
  apply W.ret
  refine ⟨.inr rfl, n + 2, fupd g' n ⟨false, [(n * 1024 + 0, wvs (sched bs 64))], none⟩, rd', ?_, by omega, fun i hi => by rw [fupd_ne _ _ _ _ (by omega)]; exact hg i hi, hrd⟩
  have L2 := ld_all (n := n + 2) (lim := lim) (rd := rd') (wr := wr) (ti75 ax) rfl (g := fupd g' n ⟨false, [(n * 1024 + 0, wvs (sched bs 64))], none⟩) (f := n) (u := n * 1024 + 0) (cs := wvs (sched bs 64)) (by rw [fupd_same]; exact rowOf_one) (by rw [wvs_len, sched_len])
  rw [ins_ge (f := n) _ (by omega)] at L2
  simp (disch := first | omega | (simp (disch := omega) only [get_of, upd_same, upd_ne, h2]; done)) only [resC_cell (ad := mkA n (n * 1024 + 0) 0), resC_nil, Tryd.results51, L2, resThen_some, resAdd_some]
end Go.Proofs.YtcmfoipnoejmlaaDoor
namespace Go.Proofs.YtcmfoipnoejmlaaDoor
open Go Go.RowKit
set_option linter.unusedSimpArgs false
set_option linter.unusedVariables false
set_option maxRecDepth 100000
theorem ByteArg.first2 {g g' : Nat → Fam} {n N len cap lim : Nat} {rd wr : List Nat} {x : Option Addr} {bs : List UInt8} (h : ByteArg g n x len bs) (hg : ∀ i, i < n → g' i = g i) :
    ∃ rd', CS.firstCells (St N g' lim rd wr) 1 len (.slice x len cap) = some (bvs bs, St N g' lim rd' wr) ∧ ∀ y, y ∈ rd' → y ∈ rd ∨ ((RB x y ∧ y < n) ∧ y < lim) := by
  obtain ⟨h1, h⟩ := h
  by_cases h0 : len = 0
  · subst h0
    have : bs = [] := List.eq_nil_of_length_eq_zero h1
    subst this
    exact ⟨rd, first_zero (by simp), fun y hy => .inl hy⟩
  · rcases h with h | ⟨f, u, off, cs, rfl, hf, hr, hl, hc⟩
    · exact absurd h h0
    · refine ⟨ins lim rd f, ?_, fun y hy => ?_⟩
      · rw [first_slq (cs := cs) (by rw [hg f hf]; exact hr) (by omega) (by omega), Nat.mul_one, hc]
      · rcases mem_ins hy with hy | hy
        · exact .inl hy
        · exact .inr ⟨⟨⟨_, rfl, by rw [block_mk]; exact hy.1.symm⟩, by omega⟩, hy.2⟩
theorem build_zero {Γ : Env} {ρ : Operand → Value} {n lim : Nat} {g : Nat → Fam} {rd wr : List Nat} {t e : TypeId} {z b : Nat} {zs : List Value} {j : TI} (ht : Γ.ti.at t = some ⟨.slice e, z, b, zs⟩) (he : Γ.ti.at e = some j) (hj : j.size = 1) :
    opBuildSlice Γ (St n g lim rd wr) ρ t 0 [] = some (.slice (some (mkA n (n * 1024 + 0) 0)) 0 0, St (n + 1) (fupd g n ⟨false, [(n * 1024 + 0, [])], none⟩) lim rd wr) := by
  unfold opBuildSlice elemOf?
  rw [ht]
  simp only [he, hj, partsOf]
  simp [buildC, fillC, newRow_st, sliceC, ble_ok, blt_ok]
set_option maxHeartbeats 2000000 in
theorem padded_run (ax : Axs) (hp : Plain ax) (x : Option Addr) (len cap : Nat) (bs : List UInt8) (hlen : len < 100000000) (n : Nat) (g : Nat → Fam) (lim : Nat) (rd wr : List Nat) (hl : lim ≤ n) (hb : ByteArg g n x len bs) :
    ∃ ao n' g' rd', callR Tryd.prog (EE ax) 50 [.slice x len cap] (St n g lim rd wr) = some (.slice ao (bs ++ padB len).length (bs ++ padB len).length, St n' g' lim rd' wr) ∧ OwnX n g' n' 1 ao (bs ++ padB len).length (bvs (bs ++ padB len)) ∧ n ≤ n' ∧ (∀ i, i < n → g' i = g i) ∧ (∀ y, y ∈ rd' → y ∈ rd ∨ ((RB x y ∧ y < n) ∧ y < lim)) := by
  have hax : ax 50 = none := hp _ (by decide)
  have hbl := hb.1
  suffices hh : ∃ v s2, callR Tryd.prog (EE ax) 50 [.slice x len cap] (St n g lim rd wr) = some (v, s2) ∧ ∃ ao n' g' rd', v = .slice ao (bs ++ padB len).length (bs ++ padB len).length ∧ s2 = St n' g' lim rd' wr ∧ OwnX n g' n' 1 ao (bs ++ padB len).length (bvs (bs ++ padB len)) ∧ n ≤ n' ∧ (∀ i, i < n → g' i = g i) ∧ (∀ y, y ∈ rd' → y ∈ rd ∨ ((RB x y ∧ y < n) ∧ y < lim)) by
    obtain ⟨v, s2, h1, ao, n', g', rd', rfl, rfl, h2⟩ := hh
    exact ⟨ao, n', g', rd', h1, h2⟩
  refine callR_ex (fn := Tryd.f50) 37 hax (fn50 ax) rfl Tryd.ntmps50 (by simp) ?_
  simp (disch := omega) only [ofArgs_cons, ofArgs_nil, Nat.reduceAdd]
  repeat apply W.seq
  apply W.region
  · simp (disch := first | omega | (simp (disch := omega) [ev_tmp, ev_const, get_of, upd_same, upd_ne, Tryd.underlying3, Tryd.underlying83, Tryd.underlying5, Tryd.underlying29, Tryd.underlying32, Tryd.underlying22]; done) | (apply inK_i64; omega) | (apply inK_u64; omega)) only [op_len, cond_true, cond_false, pick_on, stepC_if, goC_true, goC_false, guard_tt, guard_tf, guard_ft, guard_ff, slot_zero, slot_succ, put_some, runC_cons, runC_nil, stepC_free, dstC_dst, dstC_none, thenC_some, cop_assign, cop_move, cop_conv, cop_bin, cop_un, cop_pick, cop_index, cop_indexAddr, cop_load, cop_store, cop_alloc, cop_box, cop_build, cop_slice, cop_s2a, cop_field, cop_fieldAddr, cop_extract, cop_nilCheck, cop_call, cop_builtin, cop_buildSlice, ev_tmp, ev_const, ev_global, ev_func, put_of, get_of, upd_same, upd_ne, List.toList_toArray, List.map_cons, List.map_nil, some_map, none_map, ti3, ti83, ti5, ti29, ti32]
    with_reducible rfl
  simp only [onN, onB]
  generalize hg0 : fupd g n ⟨false, [(n * 1024 + 0, [])], none⟩ = g0
  have z0 : OwnX n g0 (n + 1) 1 (some (mkA n (n * 1024 + 0) 0)) 0 [] := .inr ⟨rfl, n, n * 1024 + 0, [], rfl, by rw [← hg0, fupd_same], by omega, by omega, by omega, by omega⟩
  have p0 : ∀ i, i < n → g0 i = g i := fun i hi => by rw [← hg0, fupd_ne _ _ _ _ (by omega)]
  obtain ⟨rd1, ec, hrd1⟩ := hb.first2 (N := n + 1) (g' := g0) (lim := lim) (rd := rd) (wr := wr) (cap := cap) p0
  obtain ⟨ao1, n1, g1, e1, o1, a1, a2, a3⟩ := z0.append (bytes := 1) (k := len) (y := .slice x len cap) (by omega) hl rfl ec (by rw [bvs_len]; omega) (bvs_one _) (by omega) (by omega)
  rw [List.nil_append, Nat.zero_add] at o1
  simp only [Nat.zero_add] at e1
  repeat apply W.seq
  apply W.region
  · simp (disch := first | omega | (simp (disch := omega) [ev_tmp, ev_const, get_of, upd_same, upd_ne, Tryd.underlying3, Tryd.underlying83, Tryd.underlying5, Tryd.underlying29, Tryd.underlying32, Tryd.underlying22]; done) | (apply inK_i64; omega) | (apply inK_u64; omega)) only [op_len, cond_true, cond_false, pick_on, stepC_if, goC_true, goC_false, guard_tt, guard_tf, guard_ft, guard_ff, slot_zero, slot_succ, put_some, runC_cons, runC_nil, stepC_free, dstC_dst, dstC_none, thenC_some, cop_assign, cop_move, cop_conv, cop_bin, cop_un, cop_pick, cop_index, cop_indexAddr, cop_load, cop_store, cop_alloc, cop_box, cop_build, cop_slice, cop_s2a, cop_field, cop_fieldAddr, cop_extract, cop_nilCheck, cop_call, cop_builtin, cop_buildSlice, ev_tmp, ev_const, ev_global, ev_func, put_of, get_of, upd_same, upd_ne, List.toList_toArray, List.map_cons, List.map_nil, some_map, none_map, ti3, ti83, ti5, ti29, ti32, build_zero (ti22 ax) (ti5 ax) rfl, hg0, op_append (src_u8 ax), app_sl (el_u8 ax), e1]
    with_reducible rfl
  simp only [onN, onB]
  have c128 : Value.int .u8 128 = vb 128 := rfl
  have c0 : Value.int .u8 0 = vb 0 := rfl
  obtain ⟨ao2, n2, g2, e2, o2, b1, b2, b3⟩ := OwnX.push (lim := lim) (bytes := 1) (rd := rd1) (wr := wr) (v := vb 128) o1 (by omega) hl rfl (by omega)
  repeat apply W.seq
  apply W.region
  · simp (disch := first | omega | (simp (disch := omega) [ev_tmp, ev_const, get_of, upd_same, upd_ne, cells_int, c128, vb_cells, Tryd.underlying3, Tryd.underlying83, Tryd.underlying5, Tryd.underlying29, Tryd.underlying32, Tryd.underlying22]; done) | (apply inK_i64; omega) | (apply inK_u64; omega)) only [op_len, cond_true, cond_false, pick_on, stepC_if, goC_true, goC_false, guard_tt, guard_tf, guard_ft, guard_ff, slot_zero, slot_succ, put_some, runC_cons, runC_nil, stepC_free, dstC_dst, dstC_none, thenC_some, cop_assign, cop_move, cop_conv, cop_bin, cop_un, cop_pick, cop_index, cop_indexAddr, cop_load, cop_store, cop_alloc, cop_box, cop_build, cop_slice, cop_s2a, cop_field, cop_fieldAddr, cop_extract, cop_nilCheck, cop_call, cop_builtin, cop_buildSlice, ev_tmp, ev_const, ev_global, ev_func, put_of, get_of, upd_same, upd_ne, List.toList_toArray, List.map_cons, List.map_nil, some_map, none_map, ti3, ti83, ti5, ti29, ti32, op_append (src_u8 ax), build_one (ti22 ax) (ti5 ax) rfl rfl, app_sl (el_u8 ax), c128, e2]
    with_reducible rfl
  simp only [onN, onB]
  have o2' : OwnX n g2 n2 1 ao2 (len + 1) (bvs (bs ++ 128 :: List.replicate 0 0)) := by
    have : bvs (bs ++ 128 :: List.replicate 0 0) = bvs bs ++ [vb 128] := by rw [bvs_app]; rfl
    rw [this]; exact o2
  repeat apply W.seq
  apply W.block
  refine W.loop (fun m fr s => ∃ (z : Nat) (ao : Option Addr) (h : Nat → Value) (n' : Nat) (g' : Nat → Fam), z ≤ zerosN len ∧ m = zerosN len - z ∧ fr = Fr.of 37 h ∧ s = St n' g' lim rd1 wr ∧ n ≤ n' ∧ h 0 = .slice x len cap ∧ h 3 = .slice ao (len + 1 + z) (len + 1 + z) ∧ OwnX n g' n' 1 ao (len + 1 + z) (bvs (bs ++ 128 :: List.replicate z 0)) ∧ (∀ i, i < n → g' i = g i)) ?_ (zerosN len - 0) _ _ ⟨0, ao2, _, n2, g2, Nat.zero_le _, rfl, rfl, rfl, by omega, ?_, ?_, o2', fun i hi => by rw [b3 _ (by omega), a3 _ (by omega)]; exact p0 i hi⟩
  case refine_2 => simp (disch := omega) only [upd_same, upd_ne]
  case refine_3 => simp (disch := omega) only [upd_same, upd_ne, Nat.add_zero]
  clear e1 e2 o1 o2 o2' z0 ec
  rintro m fr s ⟨z, ao, h, n', g', hz, rfl, rfl, rfl, hn, h0, h3, hown, hg⟩
  have cr : ((len + 1 + z : Nat) : Int) % 64 = (((len + 1 + z) % 64 : Nat) : Int) := by omega
  have hz64 : z < 64 := by unfold zerosN at hz; omega
  repeat apply W.seq
  apply W.region
  · simp (disch := first | omega | (simp (disch := omega) [ev_tmp, ev_const, get_of, upd_same, upd_ne, h3, Tryd.underlying3, Tryd.underlying83, Tryd.underlying5, Tryd.underlying29, Tryd.underlying32, Tryd.underlying22]; done) | (apply inK_i64; omega) | (apply inK_u64; omega)) only [op_len, cond_true, cond_false, pick_on, stepC_if, goC_true, goC_false, guard_tt, guard_tf, guard_ft, guard_ff, slot_zero, slot_succ, put_some, runC_cons, runC_nil, stepC_free, dstC_dst, dstC_none, thenC_some, cop_assign, cop_move, cop_conv, cop_bin, cop_un, cop_pick, cop_index, cop_indexAddr, cop_load, cop_store, cop_alloc, cop_box, cop_build, cop_slice, cop_s2a, cop_field, cop_fieldAddr, cop_extract, cop_nilCheck, cop_call, cop_builtin, cop_buildSlice, ev_tmp, ev_const, ev_global, ev_func, put_of, get_of, upd_same, upd_ne, List.toList_toArray, List.map_cons, List.map_nil, some_map, none_map, ti3, ti83, ti5, ti29, ti32, h3, len_sl (ti22 ax), oi_rem, cr, oi_neq]
    with_reducible rfl
  simp only [onN, onB]
  by_cases hend : z = zerosN len
  case neg =>
    have x1 : decide ((((len + 1 + z) % 64 : Nat) : Int) ≠ 56) = true := decide_eq_true (by unfold zerosN at hz hend; omega)
    repeat apply W.seq
    refine W.cond (b := true) ?_ ?_
    · simp (disch := omega) only [ev_tmp, get_of, upd_same, upd_ne, x1, decide_true, decide_false]
    simp only [cond_true, cond_false]
    apply W.skip
    simp only [onN, onB]
    obtain ⟨ao', m2, G2, e1, o1, d1, d2, d3⟩ := OwnX.push (lim := lim) (bytes := 1) (rd := rd1) (wr := wr) (v := vb 0) hown (by omega) hl rfl (by omega)
    repeat apply W.seq
    apply W.block
    repeat apply W.seq
    apply W.region
    · simp (disch := first | omega | (simp (disch := omega) [ev_tmp, ev_const, get_of, upd_same, upd_ne, h3, cells_int, c0, vb_cells, Tryd.underlying3, Tryd.underlying83, Tryd.underlying5, Tryd.underlying29, Tryd.underlying32, Tryd.underlying22]; done) | (apply inK_i64; omega) | (apply inK_u64; omega)) only [op_len, cond_true, cond_false, pick_on, stepC_if, goC_true, goC_false, guard_tt, guard_tf, guard_ft, guard_ff, slot_zero, slot_succ, put_some, runC_cons, runC_nil, stepC_free, dstC_dst, dstC_none, thenC_some, cop_assign, cop_move, cop_conv, cop_bin, cop_un, cop_pick, cop_index, cop_indexAddr, cop_load, cop_store, cop_alloc, cop_box, cop_build, cop_slice, cop_s2a, cop_field, cop_fieldAddr, cop_extract, cop_nilCheck, cop_call, cop_builtin, cop_buildSlice, ev_tmp, ev_const, ev_global, ev_func, put_of, get_of, upd_same, upd_ne, List.toList_toArray, List.map_cons, List.map_nil, some_map, none_map, ti3, ti83, ti5, ti29, ti32, h3, op_append (src_u8 ax), build_one (ti22 ax) (ti5 ax) rfl rfl, app_sl (el_u8 ax), c0, e1]
      with_reducible rfl
    simp only [onN, onB]
    refine ⟨zerosN len - (z + 1), by omega, z + 1, ao', _, m2, G2, by omega, rfl, rfl, rfl, by omega, ?_, ?_, ?_, fun i hi => by rw [d3 _ (by omega)]; exact hg i hi⟩
    · simp (disch := omega) only [upd_same, upd_ne, h0]
    · simp (disch := omega) only [upd_same, upd_ne]; rfl
    · have : bvs (bs ++ 128 :: List.replicate (z + 1) 0) = bvs (bs ++ 128 :: List.replicate z 0) ++ [vb 0] := by
        rw [List.replicate_succ', ← List.cons_append, ← List.append_assoc, bvs_app]; rfl
      rw [this]; exact o1
  have x1 : decide ((((len + 1 + z) % 64 : Nat) : Int) ≠ 56) = false := decide_eq_false (by unfold zerosN at hend; omega)
  repeat apply W.seq
  refine W.cond (b := false) ?_ ?_
  · simp (disch := omega) only [ev_tmp, get_of, upd_same, upd_ne, x1, decide_true, decide_false]
  simp only [cond_true, cond_false]
  apply W.exit
  simp only [onN, onB, Nat.beq_refl, cond_true, cond_false, bexit]
  have cu : IntKind.u64.wrap ((len : Nat) : Int) = ((len : Nat) : Int) := inK_u64 (by omega)
  repeat apply W.seq
  apply W.region
  · simp (disch := first | omega | (simp (disch := omega) [ev_tmp, ev_const, get_of, upd_same, upd_ne, h0, Tryd.underlying3, Tryd.underlying83, Tryd.underlying5, Tryd.underlying29, Tryd.underlying32, Tryd.underlying22]; done) | (apply inK_i64; omega) | (apply inK_u64; omega)) only [op_len, cond_true, cond_false, pick_on, stepC_if, goC_true, goC_false, guard_tt, guard_tf, guard_ft, guard_ff, slot_zero, slot_succ, put_some, runC_cons, runC_nil, stepC_free, dstC_dst, dstC_none, thenC_some, cop_assign, cop_move, cop_conv, cop_bin, cop_un, cop_pick, cop_index, cop_indexAddr, cop_load, cop_store, cop_alloc, cop_box, cop_build, cop_slice, cop_s2a, cop_field, cop_fieldAddr, cop_extract, cop_nilCheck, cop_call, cop_builtin, cop_buildSlice, ev_tmp, ev_const, ev_global, ev_func, put_of, get_of, upd_same, upd_ne, List.toList_toArray, List.map_cons, List.map_nil, some_map, none_map, ti3, ti83, ti5, ti29, ti32, h0, len_sl (ti22 ax), opConvert, ti3, ti32, oc_int, cu, oi_mul, q_of len (by omega)]
    with_reducible rfl
  simp only [onN, onB]
  repeat apply W.seq
  apply W.region
  · simp (disch := first | omega | (simp (disch := omega) [ev_tmp, ev_const, get_of, upd_same, upd_ne, Tryd.underlying3, Tryd.underlying83, Tryd.underlying5, Tryd.underlying29, Tryd.underlying32, Tryd.underlying22]; done) | (apply inK_i64; omega) | (apply inK_u64; omega)) only [op_len, cond_true, cond_false, pick_on, stepC_if, goC_true, goC_false, guard_tt, guard_tf, guard_ft, guard_ff, slot_zero, slot_succ, put_some, runC_cons, runC_nil, stepC_free, dstC_dst, dstC_none, thenC_some, cop_assign, cop_move, cop_conv, cop_bin, cop_un, cop_pick, cop_index, cop_indexAddr, cop_load, cop_store, cop_alloc, cop_box, cop_build, cop_slice, cop_s2a, cop_field, cop_fieldAddr, cop_extract, cop_nilCheck, cop_call, cop_builtin, cop_buildSlice, ev_tmp, ev_const, ev_global, ev_func, put_of, get_of, upd_same, upd_ne, List.toList_toArray, List.map_cons, List.map_nil, some_map, none_map, ti3, ti83, ti5, ti29, ti32]
    with_reducible rfl
  simp only [onN, onB]
  repeat apply W.seq
  apply W.block
  refine W.loop (fun m fr s => ∃ (i : Nat) (ao : Option Addr) (h : Nat → Value) (n' : Nat) (g' : Nat → Fam), i ≤ 8 ∧ m = 8 - i ∧ fr = Fr.of 37 h ∧ s = St n' g' lim rd1 wr ∧ n ≤ n' ∧ h 4 = vq (UInt64.ofNat (8 * len)) ∧ h 3 = .slice ao (len + 1 + z + i) (len + 1 + z + i) ∧ h 5 = .int .i64 (i : Int) ∧ OwnX n g' n' 1 ao (len + 1 + z + i) (bvs (bs ++ (128 :: List.replicate z 0 ++ lens len i))) ∧ (∀ i, i < n → g' i = g i)) ?_ (8 - 0) _ _ ⟨0, ao, _, _, _, by omega, rfl, rfl, rfl, hn, ?_, ?_, ?_, ?_, hg⟩
  case refine_2 => simp (disch := omega) only [upd_same, upd_ne]
  case refine_3 => simp (disch := omega) only [upd_same, upd_ne, h3]; rfl
  case refine_4 => simp (disch := omega) only [upd_same, upd_ne]; rfl
  case refine_5 => rw [lens, List.append_nil]; exact hown
  clear h0 h3 hown hg
  rintro m fr s ⟨i, ao, h, n', g', hi, rfl, rfl, rfl, hn, h4, h3, h5, hown, hg⟩
  repeat apply W.seq
  apply W.region
  · simp (disch := first | omega | (simp (disch := omega) [ev_tmp, ev_const, get_of, upd_same, upd_ne, h5, Tryd.underlying3, Tryd.underlying83, Tryd.underlying5, Tryd.underlying29, Tryd.underlying32, Tryd.underlying22]; done) | (apply inK_i64; omega) | (apply inK_u64; omega)) only [op_len, cond_true, cond_false, pick_on, stepC_if, goC_true, goC_false, guard_tt, guard_tf, guard_ft, guard_ff, slot_zero, slot_succ, put_some, runC_cons, runC_nil, stepC_free, dstC_dst, dstC_none, thenC_some, cop_assign, cop_move, cop_conv, cop_bin, cop_un, cop_pick, cop_index, cop_indexAddr, cop_load, cop_store, cop_alloc, cop_box, cop_build, cop_slice, cop_s2a, cop_field, cop_fieldAddr, cop_extract, cop_nilCheck, cop_call, cop_builtin, cop_buildSlice, ev_tmp, ev_const, ev_global, ev_func, put_of, get_of, upd_same, upd_ne, List.toList_toArray, List.map_cons, List.map_nil, some_map, none_map, ti3, ti83, ti5, ti29, ti32, oi_lss, h5]
    with_reducible rfl
  simp only [onN, onB]
  by_cases hi8 : (i : Int) < 8
  case pos =>
    repeat apply W.seq
    refine W.cond (b := true) ?_ ?_
    · simp (disch := omega) only [ev_tmp, get_of, upd_same, upd_ne, hi8, decide_true, decide_false]
    simp only [cond_true, cond_false]
    apply W.skip
    simp only [onN, onB]
    have c1 : (8 : Int) * ((i : Nat) : Int) = ((8 * i : Nat) : Int) := by omega
    have c2 : (56 : Int) - ((8 * i : Nat) : Int) = ((56 - 8 * i : Nat) : Int) := by omega
    obtain ⟨ao', m2, G2, e1, o1, d1, d2, d3⟩ := OwnX.push (lim := lim) (bytes := 1) (rd := rd1) (wr := wr) (v := vb (lenB len i)) hown (by omega) hl rfl (by omega)
    unfold lenB at e1
    repeat apply W.seq
    apply W.block
    repeat apply W.seq
    apply W.region
    · simp (disch := first | omega | (simp (disch := omega) [ev_tmp, ev_const, get_of, upd_same, upd_ne, h3, h4, h5, vb_cells, Tryd.underlying3, Tryd.underlying83, Tryd.underlying5, Tryd.underlying29, Tryd.underlying32, Tryd.underlying22]; done) | (apply inK_i64; omega) | (apply inK_u64; omega) | (rw [c1]; apply inK_i64; omega) | (rw [c2]; apply inK_i64; omega)) only [op_len, cond_true, cond_false, pick_on, stepC_if, goC_true, goC_false, guard_tt, guard_tf, guard_ft, guard_ff, slot_zero, slot_succ, put_some, runC_cons, runC_nil, stepC_free, dstC_dst, dstC_none, thenC_some, cop_assign, cop_move, cop_conv, cop_bin, cop_un, cop_pick, cop_index, cop_indexAddr, cop_load, cop_store, cop_alloc, cop_box, cop_build, cop_slice, cop_s2a, cop_field, cop_fieldAddr, cop_extract, cop_nilCheck, cop_call, cop_builtin, cop_buildSlice, ev_tmp, ev_const, ev_global, ev_func, put_of, get_of, upd_same, upd_ne, List.toList_toArray, List.map_cons, List.map_nil, some_map, none_map, ti3, ti83, ti5, ti29, ti32, h3, h4, h5, oi_mul, c1, oi_sub, c2, bq_shr, conv_qb (ti32 ax) (ti5 ax), op_append (src_u8 ax), build_one (ti22 ax) (ti5 ax) rfl rfl, app_sl (el_u8 ax), e1]
      with_reducible rfl
    simp only [onN, onB]
    repeat apply W.seq
    apply W.region
    · simp (disch := first | omega | (simp (disch := omega) [ev_tmp, ev_const, get_of, upd_same, upd_ne, h5, Tryd.underlying3, Tryd.underlying83, Tryd.underlying5, Tryd.underlying29, Tryd.underlying32, Tryd.underlying22]; done) | (apply inK_i64; omega) | (apply inK_u64; omega)) only [op_len, cond_true, cond_false, pick_on, stepC_if, goC_true, goC_false, guard_tt, guard_tf, guard_ft, guard_ff, slot_zero, slot_succ, put_some, runC_cons, runC_nil, stepC_free, dstC_dst, dstC_none, thenC_some, cop_assign, cop_move, cop_conv, cop_bin, cop_un, cop_pick, cop_index, cop_indexAddr, cop_load, cop_store, cop_alloc, cop_box, cop_build, cop_slice, cop_s2a, cop_field, cop_fieldAddr, cop_extract, cop_nilCheck, cop_call, cop_builtin, cop_buildSlice, ev_tmp, ev_const, ev_global, ev_func, put_of, get_of, upd_same, upd_ne, List.toList_toArray, List.map_cons, List.map_nil, some_map, none_map, ti3, ti83, ti5, ti29, ti32, oi_add, h5]
      with_reducible rfl
    simp only [onN, onB]
    refine ⟨8 - (i + 1), by omega, i + 1, ao', _, m2, G2, by omega, rfl, rfl, rfl, by omega, ?_, ?_, ?_, ?_, fun i hi => by rw [d3 _ (by omega)]; exact hg i hi⟩
    · simp (disch := omega) only [upd_same, upd_ne, h4]
    · simp (disch := omega) only [upd_same, upd_ne]; rfl
    · simp (disch := omega) only [upd_same, upd_ne]; rfl
    · rw [lens, ← List.append_assoc, ← List.append_assoc, bvs_app, List.append_assoc]; exact o1
  repeat apply W.seq
  refine W.cond (b := false) ?_ ?_
  · simp (disch := omega) only [ev_tmp, get_of, upd_same, upd_ne, hi8, decide_true, decide_false]
  simp only [cond_true, cond_false]
  apply W.exit
  simp only [onN, onB, Nat.beq_refl, cond_true, cond_false, bexit]
  have hi' : i = 8 := by omega
  subst hi'
  have hpad : 128 :: List.replicate z 0 ++ lens len 8 = padB len := by rw [hend]; rfl
  rw [hpad] at hown
  have hpl : (bs ++ padB len).length = len + 1 + z + 8 := by rw [List.length_append, padB_len, hend, hbl]; omega
  repeat apply W.seq
  apply W.region
  · simp (disch := first | omega | (simp (disch := omega) [ev_tmp, ev_const, get_of, upd_same, upd_ne, h3, Tryd.underlying3, Tryd.underlying83, Tryd.underlying5, Tryd.underlying29, Tryd.underlying32, Tryd.underlying22]; done) | (apply inK_i64; omega) | (apply inK_u64; omega)) only [op_len, cond_true, cond_false, pick_on, stepC_if, goC_true, goC_false, guard_tt, guard_tf, guard_ft, guard_ff, slot_zero, slot_succ, put_some, runC_cons, runC_nil, stepC_free, dstC_dst, dstC_none, thenC_some, cop_assign, cop_move, cop_conv, cop_bin, cop_un, cop_pick, cop_index, cop_indexAddr, cop_load, cop_store, cop_alloc, cop_box, cop_build, cop_slice, cop_s2a, cop_field, cop_fieldAddr, cop_extract, cop_nilCheck, cop_call, cop_builtin, cop_buildSlice, ev_tmp, ev_const, ev_global, ev_func, put_of, get_of, upd_same, upd_ne, List.toList_toArray, List.map_cons, List.map_nil, some_map, none_map, ti3, ti83, ti5, ti29, ti32, h3]
    with_reducible rfl
  simp only [onN, onB]
  apply W.ret
  refine ⟨.inr rfl, [.slice ao (len + 1 + z + 8) (len + 1 + z + 8)], St n' g' lim rd1 wr, ?_, ao, n', g', rd1, by rw [hpl]; rfl, rfl, by rw [hpl]; exact hown, hn, hg, hrd1⟩
  simp (disch := omega) only [resC, Tryd.results50, get_of, upd_same]
  all_goals rfl
end Go.Proofs.YtcmfoipnoejmlaaDoor
namespace Go.Proofs.YtcmfoipnoejmlaaDoor
open Go Go.RowKit
set_option linter.unusedSimpArgs false
set_option linter.unusedVariables false
set_option maxRecDepth 100000
theorem xor_ff (x : UInt32) : x ^^^ 4294967295 = ~~~x := by
  apply UInt32.toBitVec_inj.1
  show x.toBitVec ^^^ 4294967295#32 = ~~~x.toBitVec
  have : (4294967295#32) = BitVec.allOnes 32 := by decide
  rw [this, BitVec.xor_allOnes]
/-- the sums so far -/
def smW (s v : List UInt32) : Nat → List UInt32
  | 0 => s
  | i + 1 => (smW s v i).set i ((smW s v i).getD i 0 + v.getD i 0)
theorem smW_len (s v : List UInt32) : ∀ i, (smW s v i).length = s.length
  | 0 => rfl
  | i + 1 => by rw [smW, List.length_set, smW_len s v i]
theorem sm_fin (s V E : List UInt32) (hs : s.length = 8) (hV : V.length = 4) (hE : E.length = 4) : smW s (V ++ E) 8 = fin s V E 4 := by
  obtain ⟨a, b, c, d, e, f, g, k, rfl⟩ := len8 hs
  obtain ⟨v0, v1, v2, v3, rfl⟩ := len4 hV
  obtain ⟨e0, e1, e2, e3, rfl⟩ := len4 hE
  rfl
theorem build_arr8 {Γ : Env} {s : CS} {ρ : Operand → Value} {ty e : TypeId} {b2 b3 : Nat} {z0 z1 z2 z3 z4 z5 z6 z7 : Value} {z8 : List Value} {d : TypeDesc} {x0 x1 x2 x3 x4 x5 x6 x7 : Operand} (ha : Γ.ti.at ty = some ⟨.array 8 e, 8, b2, [z0, z1, z2, z3, z4, z5, z6, z7]⟩) (he : Γ.ti.at e = some ⟨d, 1, b3, z8⟩) (h0 : (ρ x0).cells = #[ρ x0]) (h1 : (ρ x1).cells = #[ρ x1]) (h2 : (ρ x2).cells = #[ρ x2]) (h3 : (ρ x3).cells = #[ρ x3]) (h4 : (ρ x4).cells = #[ρ x4]) (h5 : (ρ x5).cells = #[ρ x5]) (h6 : (ρ x6).cells = #[ρ x6]) (h7 : (ρ x7).cells = #[ρ x7]) :
    opBuild Γ s ρ ty [(0, x0), (1, x1), (2, x2), (3, x3), (4, x4), (5, x5), (6, x6), (7, x7)] = some (.agg #[ρ x0, ρ x1, ρ x2, ρ x3, ρ x4, ρ x5, ρ x6, ρ x7], s) := by
  unfold opBuild
  rw [ha]
  simp only [he, partsOf, placeA, h0, h1, h2, h3, h4, h5, h6, h7]
  rfl
set_option maxHeartbeats 8000000 in
theorem rsum_run (ax : Axs) (hp : Plain ax) (x : Option Addr) (len cap : Nat) (bs : List UInt8) (hlen : len < 10000000) (n : Nat) (g : Nat → Fam) (lim : Nat) (rd wr : List Nat) (hl : lim ≤ n) (hb : ByteArg g n x len bs) (hG : 0 < n) (hk : rowOf (g 0).rows (0 * 1024) = some (wvs KW)) :
    Ret Tryd.prog (EE ax) 18 [.slice x len cap] n g lim rd wr (fun y => y = 0 ∨ (RB x y ∧ y < n)) (.agg (bvs (sha bs)).toArray) := by
  have hax : ax 18 = none := hp _ (by decide)
  have hbl := hb.1
  refine Ret.of (fn := Tryd.f18) 148 hax (fn18 ax) rfl Tryd.ntmps18 (by simp) ?_
  simp (disch := omega) only [ofArgs_cons, ofArgs_nil, Nat.reduceAdd]
  repeat apply W.seq
  apply W.region
  · simp (disch := first | omega | (simp (disch := omega) [ev_tmp, ev_const, get_of, upd_same, upd_ne, Tryd.underlying3, Tryd.underlying83, Tryd.underlying5, Tryd.underlying29, Tryd.underlying32, Tryd.underlying22]; done) | (apply inK_i64; omega) | (apply inK_u64; omega)) only [op_len, cond_true, cond_false, pick_on, stepC_if, goC_true, goC_false, guard_tt, guard_tf, guard_ft, guard_ff, slot_zero, slot_succ, put_some, runC_cons, runC_nil, stepC_free, dstC_dst, dstC_none, thenC_some, cop_assign, cop_move, cop_conv, cop_bin, cop_un, cop_pick, cop_index, cop_indexAddr, cop_load, cop_store, cop_alloc, cop_box, cop_build, cop_slice, cop_s2a, cop_field, cop_fieldAddr, cop_extract, cop_nilCheck, cop_call, cop_builtin, cop_buildSlice, ev_tmp, ev_const, ev_global, ev_func, put_of, get_of, upd_same, upd_ne, List.toList_toArray, List.map_cons, List.map_nil, some_map, none_map, ti3, ti83, ti5, ti29, ti32, alloc_st (ti24 ax)]
    with_reducible rfl
  simp only [onN, onB]
  have S1 := st_all (n := n + 1 + 1) (lim := lim) (rd := rd) (wr := wr) (ti30 ax) (g := fupd (fupd g n ⟨false, [(n * 1024 + 0, List.replicate 32 (.int .u8 0))], none⟩) (n + 1) ⟨false, [((n + 1) * 1024 + 0, List.replicate 8 (.int .u32 0))], none⟩) (f := n + 1) (u := (n + 1) * 1024 + 0) (vs := wvs IVW) (fupd_same _ _ _) rfl (by simp) (wvs_one _)
  rw [fupd_fupd, ins_ge (f := n + 1) _ (by omega)] at S1
  repeat apply W.seq
  apply W.region
  · simp (disch := first | omega | (simp (disch := omega) [ev_tmp, ev_const, get_of, upd_same, upd_ne, Tryd.underlying3, Tryd.underlying83, Tryd.underlying5, Tryd.underlying29, Tryd.underlying32, Tryd.underlying22]; done) | (apply inK_i64; omega) | (apply inK_u64; omega)) only [op_len, cond_true, cond_false, pick_on, stepC_if, goC_true, goC_false, guard_tt, guard_tf, guard_ft, guard_ff, slot_zero, slot_succ, put_some, runC_cons, runC_nil, stepC_free, dstC_dst, dstC_none, thenC_some, cop_assign, cop_move, cop_conv, cop_bin, cop_un, cop_pick, cop_index, cop_indexAddr, cop_load, cop_store, cop_alloc, cop_box, cop_build, cop_slice, cop_s2a, cop_field, cop_fieldAddr, cop_extract, cop_nilCheck, cop_call, cop_builtin, cop_buildSlice, ev_tmp, ev_const, ev_global, ev_func, put_of, get_of, upd_same, upd_ne, List.toList_toArray, List.map_cons, List.map_nil, some_map, none_map, ti3, ti83, ti5, ti29, ti32, bld8 ax, alloc_st (ti30 ax), cells_agg, S1]
    with_reducible rfl
  simp only [onN, onB]
  generalize hg0 : fupd (fupd g n ⟨false, [(n * 1024 + 0, List.replicate 32 (.int .u8 0))], none⟩) (n + 1) ⟨false, [((n + 1) * 1024 + 0, wvs IVW)], none⟩ = g0
  have p2 : g0 n = ⟨false, [(n * 1024 + 0, List.replicate 32 (vb 0))], none⟩ := by rw [← hg0, fupd_ne _ _ _ _ (by omega), fupd_same]; rfl
  have p1 : g0 (n + 1) = ⟨false, [((n + 1) * 1024 + 0, wvs IVW)], none⟩ := by rw [← hg0, fupd_same]
  have p0 : ∀ i, i < n → g0 i = g i := fun i hi => by rw [← hg0, fupd_ne _ _ _ _ (by omega), fupd_ne _ _ _ _ (by omega)]
  clear hg0 S1
  have hb2 : ByteArg g0 (n + 1 + 1) x len bs := by
    refine ⟨hb.1, hb.2.imp id ?_⟩
    rintro ⟨f, u, off, cs, rfl, h1, h2, h3⟩
    exact ⟨f, u, off, cs, rfl, by omega, by rw [p0 f h1]; exact h2, h3⟩
  have hRBn : ∀ y, RB x y → len ≠ 0 → y < n := by
    rintro y ⟨a, rfl, rfl⟩ h0
    rcases hb.2 with h | ⟨f, u, off, cs, he, h1, _⟩
    · exact absurd h h0
    · simp only [Option.some.injEq] at he
      subst he
      exact h1
  obtain ⟨ao, n2, g2, rd2, e2, o2, a1, a2, a3⟩ := padded_run ax hp x len cap bs (by omega) (n + 1 + 1) g0 lim rd wr (by omega) hb2
  repeat apply W.seq
  apply W.region
  · simp (disch := first | omega | (simp (disch := omega) [ev_tmp, ev_const, get_of, upd_same, upd_ne, Tryd.underlying3, Tryd.underlying83, Tryd.underlying5, Tryd.underlying29, Tryd.underlying32, Tryd.underlying22]; done) | (apply inK_i64; omega) | (apply inK_u64; omega)) only [op_len, cond_true, cond_false, pick_on, stepC_if, goC_true, goC_false, guard_tt, guard_tf, guard_ft, guard_ff, slot_zero, slot_succ, put_some, runC_cons, runC_nil, stepC_free, dstC_dst, dstC_none, thenC_some, cop_assign, cop_move, cop_conv, cop_bin, cop_un, cop_pick, cop_index, cop_indexAddr, cop_load, cop_store, cop_alloc, cop_box, cop_build, cop_slice, cop_s2a, cop_field, cop_fieldAddr, cop_extract, cop_nilCheck, cop_call, cop_builtin, cop_buildSlice, ev_tmp, ev_const, ev_global, ev_func, put_of, get_of, upd_same, upd_ne, List.toList_toArray, List.map_cons, List.map_nil, some_map, none_map, ti3, ti83, ti5, ti29, ti32, e2]
    with_reducible rfl
  simp only [onN, onB]
  generalize hQ : bs ++ padB len = Q at *
  have hQm : Q.length % 64 = 0 := by rw [← hQ, ← hbl]; exact pad_mod bs
  have hQl : Q.length < 20000000 := by rw [← hQ, List.length_append, padB_len, hbl]; unfold zerosN; omega
  have hQ0 : Q.length ≠ 0 := by rw [← hQ, List.length_append, padB_len]; omega
  obtain ⟨f, u, rest, rfl, of1, of2, of3, otag⟩ : ∃ f u rest, ao = some (mkA f u 0) ∧ g2 f = ⟨false, (u, bvs Q) :: rest, none⟩ ∧ n + 1 + 1 ≤ f ∧ f < n2 ∧ (u % 1024 = 0 ∨ u % 1024 = 2) := by
    rcases o2 with ⟨_, ⟨_, h0⟩ | ⟨f, u, rest, k1, k2, k3, k4, k5, k6⟩⟩ | ⟨_, f, u, rest, k1, k2, k3, k4, k5, k6⟩
    · exact absurd h0 hQ0
    · exact ⟨f, u, rest, k1, k2, k3, k4, .inr k6⟩
    · exact ⟨f, u, rest, k1, k2, k3, k4, .inl k6⟩
  have hrd2 : ∀ y, y ∈ rd2 → y ∈ rd ∨ ((y = 0 ∨ (RB x y ∧ y < n)) ∧ y < lim) := by
    intro y hy
    rcases a3 y hy with h | ⟨⟨h, _⟩, h2⟩
    · exact .inl h
    · exact .inr ⟨.inr ⟨h, by omega⟩, h2⟩
  apply W.seq
  refine W.cut (fun fr s => ∃ (h : Nat → Value) (n' : Nat) (g' : Nat → Fam) (rd' : List Nat), fr = Fr.of 148 h ∧ s = St n' g' lim rd' wr ∧ n2 ≤ n' ∧ h 4 = .slice (some (mkA f u 0)) Q.length Q.length ∧ h 2 = .pointer (some (mkA n (n * 1024 + 0) 0)) ∧ h 3 = .pointer (some (mkA (n + 1) ((n + 1) * 1024 + 0) 0)) ∧ g' n = ⟨false, [(n * 1024 + 0, List.replicate 32 (vb 0))], none⟩ ∧ g' (n + 1) = ⟨false, [((n + 1) * 1024 + 0, wvs (blocks Q (Q.length / 64)))], none⟩ ∧ g' f = ⟨false, (u, bvs Q) :: rest, none⟩ ∧ (∀ i, i < n → g' i = g i) ∧ (∀ y, y ∈ rd' → y ∈ rd ∨ ((y = 0 ∨ (RB x y ∧ y < n)) ∧ y < lim))) ?_ ?_
  · skip
    repeat apply W.seq
    apply W.region
    · simp (disch := first | omega | (simp (disch := omega) [ev_tmp, ev_const, get_of, upd_same, upd_ne, Tryd.underlying3, Tryd.underlying83, Tryd.underlying5, Tryd.underlying29, Tryd.underlying32, Tryd.underlying22]; done) | (apply inK_i64; omega) | (apply inK_u64; omega)) only [op_len, cond_true, cond_false, pick_on, stepC_if, goC_true, goC_false, guard_tt, guard_tf, guard_ft, guard_ff, slot_zero, slot_succ, put_some, runC_cons, runC_nil, stepC_free, dstC_dst, dstC_none, thenC_some, cop_assign, cop_move, cop_conv, cop_bin, cop_un, cop_pick, cop_index, cop_indexAddr, cop_load, cop_store, cop_alloc, cop_box, cop_build, cop_slice, cop_s2a, cop_field, cop_fieldAddr, cop_extract, cop_nilCheck, cop_call, cop_builtin, cop_buildSlice, ev_tmp, ev_const, ev_global, ev_func, put_of, get_of, upd_same, upd_ne, List.toList_toArray, List.map_cons, List.map_nil, some_map, none_map, ti3, ti83, ti5, ti29, ti32]
      with_reducible rfl
    simp only [onN, onB]
    repeat apply W.seq
    apply W.block
    refine W.loop (fun m fr s => ∃ (i : Nat) (h : Nat → Value) (n' : Nat) (g' : Nat → Fam) (rd' : List Nat), 64 * i ≤ Q.length ∧ m = Q.length - 64 * i ∧ fr = Fr.of 148 h ∧ s = St n' g' lim rd' wr ∧ n2 ≤ n' ∧ h 4 = .slice (some (mkA f u 0)) Q.length Q.length ∧ h 2 = .pointer (some (mkA n (n * 1024 + 0) 0)) ∧ h 3 = .pointer (some (mkA (n + 1) ((n + 1) * 1024 + 0) 0)) ∧ h 5 = .int .i64 ((64 * i : Nat) : Int) ∧ g' n = ⟨false, [(n * 1024 + 0, List.replicate 32 (vb 0))], none⟩ ∧ g' (n + 1) = ⟨false, [((n + 1) * 1024 + 0, wvs (blocks Q i))], none⟩ ∧ g' f = ⟨false, (u, bvs Q) :: rest, none⟩ ∧ (∀ i, i < n → g' i = g i) ∧ (∀ y, y ∈ rd' → y ∈ rd ∨ ((y = 0 ∨ (RB x y ∧ y < n)) ∧ y < lim))) ?_ (Q.length - 64 * 0) _ _ ⟨0, _, n2, g2, rd2, by omega, rfl, rfl, rfl, Nat.le_refl _, ?_, ?_, ?_, ?_, by rw [a2 _ (by omega)]; exact p2, by rw [a2 _ (by omega)]; exact p1, of1, fun i hi => by rw [a2 _ (by omega)]; exact p0 i hi, hrd2⟩
    case refine_2 => simp (disch := omega) only [upd_same, upd_ne]
    case refine_3 => simp (disch := omega) only [upd_same, upd_ne]
    case refine_4 => simp (disch := omega) only [upd_same, upd_ne]
    case refine_5 => simp (disch := omega) only [upd_same, upd_ne]; rfl
    clear e2 o2 of1 p0 p1 p2 hrd2 a2 a3 hb2
    rintro m fr s ⟨i, h, n', g', rd', hi, rfl, rfl, rfl, hn, h4, h2, h3, h5, q2, q1, qf, q0, hrd⟩
    repeat apply W.seq
    apply W.region
    · simp (disch := first | omega | (simp (disch := omega) [ev_tmp, ev_const, get_of, upd_same, upd_ne, h4, h5, Tryd.underlying3, Tryd.underlying83, Tryd.underlying5, Tryd.underlying29, Tryd.underlying32, Tryd.underlying22]; done) | (apply inK_i64; omega) | (apply inK_u64; omega)) only [op_len, cond_true, cond_false, pick_on, stepC_if, goC_true, goC_false, guard_tt, guard_tf, guard_ft, guard_ff, slot_zero, slot_succ, put_some, runC_cons, runC_nil, stepC_free, dstC_dst, dstC_none, thenC_some, cop_assign, cop_move, cop_conv, cop_bin, cop_un, cop_pick, cop_index, cop_indexAddr, cop_load, cop_store, cop_alloc, cop_box, cop_build, cop_slice, cop_s2a, cop_field, cop_fieldAddr, cop_extract, cop_nilCheck, cop_call, cop_builtin, cop_buildSlice, ev_tmp, ev_const, ev_global, ev_func, put_of, get_of, upd_same, upd_ne, List.toList_toArray, List.map_cons, List.map_nil, some_map, none_map, ti3, ti83, ti5, ti29, ti32, h4, h5, len_sl (ti22 ax), oi_lss]
      with_reducible rfl
    simp only [onN, onB]
    by_cases hlt : ((64 * i : Nat) : Int) < (Q.length : Int)
    case neg =>
      repeat apply W.seq
      refine W.cond (b := false) ?_ ?_
      · simp (disch := omega) only [ev_tmp, get_of, upd_same, upd_ne, hlt, decide_true, decide_false]
      simp only [cond_true, cond_false]
      apply W.exit
      simp only [onN, onB, Nat.beq_refl, cond_true]
      have hie : i = Q.length / 64 := by omega
      exact ⟨by first | rfl | trivial, _, n', g', rd', rfl, rfl, hn, by simp (disch := omega) only [upd_same, upd_ne, h4], by simp (disch := omega) only [upd_same, upd_ne, h2], by simp (disch := omega) only [upd_same, upd_ne, h3], q2, by rw [← hie]; exact q1, qf, q0, hrd⟩
    repeat apply W.seq
    refine W.cond (b := true) ?_ ?_
    · simp (disch := omega) only [ev_tmp, get_of, upd_same, upd_ne, hlt, decide_true, decide_false]
    simp only [cond_true, cond_false]
    apply W.skip
    simp only [onN, onB]
    have hil : 64 * i + 64 ≤ Q.length := by omega
    have c1 : ((64 * i : Nat) : Int) + 64 = ((64 * i + 64 : Nat) : Int) := by omega
    have c4 : 64 * i + 64 - 64 * i = 64 := by omega
    have hbd := bounds_lh (len := Q.length) (cap := Q.length) (natOf_nat .i64 (64 * i)) (natOf_nat .i64 (64 * i + 64)) (by omega) (by omega)
    generalize hBk : (Q.drop (64 * i)).take 64 = bk at *
    have hbk : bk.length = 64 := by rw [← hBk, List.length_take, List.length_drop]; omega
    have hbsl : BSl g' n' f u (0 + 64 * i) 64 (Q.length - 64 * i) bk := by
      refine ⟨by omega, otag, by omega, hbk, bvs Q, by rw [qf]; simp [rowOf, Nat.beq_refl], fun j hj => ?_⟩
      rw [bvs_get (by omega), ← hBk]
      congr 2
      rw [List.getD_eq_getElem?_getD, List.getD_eq_getElem?_getD, List.getElem?_take_of_lt (by omega), List.getElem?_drop, Nat.zero_add]
    obtain ⟨n3, g3, rd3, e3, b1, b2, b3⟩ := words_run ax hp bk f u (0 + 64 * i) 64 (Q.length - 64 * i) n' g' lim rd' wr (by omega) hbsl rfl
    have S1 := st_all (n := n3 + 1) (lim := lim) (rd := rd3) (wr := wr) (ti75 ax) (g := fupd g3 n3 ⟨false, [(n3 * 1024 + 0, List.replicate 64 (.int .u32 0))], none⟩) (f := n3) (u := n3 * 1024 + 0) (vs := wvs (sched bk 64)) (fupd_same _ _ _) (by rw [wvs_len, sched_len]) (by simp) (wvs_one _)
    rw [fupd_fupd, ins_ge (f := n3) _ (by omega)] at S1
    repeat apply W.seq
    apply W.block
    repeat apply W.seq
    apply W.region
    · simp (disch := first | omega | (simp (disch := omega) [ev_tmp, ev_const, get_of, upd_same, upd_ne, h4, h5, Tryd.underlying3, Tryd.underlying83, Tryd.underlying5, Tryd.underlying29, Tryd.underlying32, Tryd.underlying22]; done) | (apply inK_i64; omega) | (apply inK_u64; omega) | (rw [c1]; apply inK_i64; omega)) only [op_len, cond_true, cond_false, pick_on, stepC_if, goC_true, goC_false, guard_tt, guard_tf, guard_ft, guard_ff, slot_zero, slot_succ, put_some, runC_cons, runC_nil, stepC_free, dstC_dst, dstC_none, thenC_some, cop_assign, cop_move, cop_conv, cop_bin, cop_un, cop_pick, cop_index, cop_indexAddr, cop_load, cop_store, cop_alloc, cop_box, cop_build, cop_slice, cop_s2a, cop_field, cop_fieldAddr, cop_extract, cop_nilCheck, cop_call, cop_builtin, cop_buildSlice, ev_tmp, ev_const, ev_global, ev_func, put_of, get_of, upd_same, upd_ne, List.toList_toArray, List.map_cons, List.map_nil, some_map, none_map, ti3, ti83, ti5, ti29, ti32, h4, h5, oi_add, c1, slice_sl (ti22 ax) (ti5 ax) hbd otag, Nat.mul_one, c4, e3, alloc_st (ti75 ax), cells_agg, S1]
      with_reducible rfl
    simp only [onN, onB]
    have hbl8 := blocks_len Q i
    have L1 := ld_all (n := n3 + 1) (lim := lim) (rd := rd3) (wr := wr) (ti30 ax) rfl (g := fupd g3 n3 ⟨false, [(n3 * 1024 + 0, wvs (sched bk 64))], none⟩) (f := n + 1) (u := (n + 1) * 1024 + 0) (cs := wvs (blocks Q i)) (by rw [fupd_ne _ _ _ _ (by omega), b2 _ (by omega), q1]; exact rowOf_one) (by rw [wvs_len, hbl8])
    rw [ins_ge (f := n + 1) _ (by omega)] at L1
    have S2 := st_all (n := n3 + 1 + 1) (lim := lim) (rd := rd3) (wr := wr) (ti30 ax) (g := fupd (fupd g3 n3 ⟨false, [(n3 * 1024 + 0, wvs (sched bk 64))], none⟩) (n3 + 1) ⟨false, [((n3 + 1) * 1024 + 0, List.replicate 8 (.int .u32 0))], none⟩) (f := n3 + 1) (u := (n3 + 1) * 1024 + 0) (vs := wvs (blocks Q i)) (fupd_same _ _ _) (by rw [wvs_len, hbl8]) (by simp) (wvs_one _)
    rw [fupd_fupd, ins_ge (f := n3 + 1) _ (by omega)] at S2
    repeat apply W.seq
    apply W.region
    · simp (disch := first | omega | (simp (disch := omega) [ev_tmp, ev_const, get_of, upd_same, upd_ne, h3, Tryd.underlying3, Tryd.underlying83, Tryd.underlying5, Tryd.underlying29, Tryd.underlying32, Tryd.underlying22]; done) | (apply inK_i64; omega) | (apply inK_u64; omega)) only [op_len, cond_true, cond_false, pick_on, stepC_if, goC_true, goC_false, guard_tt, guard_tf, guard_ft, guard_ff, slot_zero, slot_succ, put_some, runC_cons, runC_nil, stepC_free, dstC_dst, dstC_none, thenC_some, cop_assign, cop_move, cop_conv, cop_bin, cop_un, cop_pick, cop_index, cop_indexAddr, cop_load, cop_store, cop_alloc, cop_box, cop_build, cop_slice, cop_s2a, cop_field, cop_fieldAddr, cop_extract, cop_nilCheck, cop_call, cop_builtin, cop_buildSlice, ev_tmp, ev_const, ev_global, ev_func, put_of, get_of, upd_same, upd_ne, List.toList_toArray, List.map_cons, List.map_nil, some_map, none_map, ti3, ti83, ti5, ti29, ti32, h3, L1, alloc_st (ti30 ax), cells_agg, S2]
      with_reducible rfl
    simp only [onN, onB]
    generalize hg4 : fupd (fupd g3 n3 ⟨false, [(n3 * 1024 + 0, wvs (sched bk 64))], none⟩) (n3 + 1) ⟨false, [((n3 + 1) * 1024 + 0, wvs (blocks Q i))], none⟩ = g4
    have w1 : g4 n3 = ⟨false, [(n3 * 1024 + 0, wvs (sched bk 64))], none⟩ := by rw [← hg4, fupd_ne _ _ _ _ (by omega), fupd_same]
    have w2 : g4 (n3 + 1) = ⟨false, [((n3 + 1) * 1024 + 0, wvs (blocks Q i))], none⟩ := by rw [← hg4, fupd_same]
    have w0 : ∀ j, j < n' → g4 j = g' j := fun j hj => by rw [← hg4, fupd_ne _ _ _ _ (by omega), fupd_ne _ _ _ _ (by omega), b2 _ hj]
    clear hg4 S1 S2 L1
    have hrd3 : ∀ y, y ∈ rd3 → y ∈ rd ∨ ((y = 0 ∨ (RB x y ∧ y < n)) ∧ y < lim) := by
      intro y hy
      rcases b3 y hy with hy | ⟨rfl, hy⟩
      · exact hrd y hy
      · omega
    have v2 : g4 n = ⟨false, [(n * 1024 + 0, List.replicate 32 (vb 0))], none⟩ := by rw [w0 _ (by omega)]; exact q2
    have v1 : g4 (n + 1) = ⟨false, [((n + 1) * 1024 + 0, wvs (blocks Q i))], none⟩ := by rw [w0 _ (by omega)]; exact q1
    have vf : g4 f = ⟨false, (u, bvs Q) :: rest, none⟩ := by rw [w0 _ (by omega)]; exact qf
    have v0 : ∀ j, j < n → g4 j = g j := fun j hj => by rw [w0 _ (by omega)]; exact q0 j hj
    clear w0 q2 q1 qf q0 hrd b2 b3 e3 hbsl hbd
    -- the rounds
    apply W.seq
    refine W.cut (fun fr s => ∃ (h : Nat → Value) (g' : Nat → Fam) (rd' : List Nat), fr = Fr.of 148 h ∧ s = St (n3 + 1 + 1) g' lim rd' wr ∧ h 4 = .slice (some (mkA f u 0)) Q.length Q.length ∧ h 2 = .pointer (some (mkA n (n * 1024 + 0) 0)) ∧ h 3 = .pointer (some (mkA (n + 1) ((n + 1) * 1024 + 0) 0)) ∧ h 5 = .int .i64 ((64 * i : Nat) : Int) ∧ h 7 = .pointer (some (mkA (n3 + 1) ((n3 + 1) * 1024 + 0) 0)) ∧ g' n = ⟨false, [(n * 1024 + 0, List.replicate 32 (vb 0))], none⟩ ∧ g' (n + 1) = ⟨false, [((n + 1) * 1024 + 0, wvs (blocks Q i))], none⟩ ∧ g' (n3 + 1) = ⟨false, [((n3 + 1) * 1024 + 0, wvs ((rds (blocks Q i) (sched bk 64) KW 64).1 ++ (rds (blocks Q i) (sched bk 64) KW 64).2))], none⟩ ∧ g' f = ⟨false, (u, bvs Q) :: rest, none⟩ ∧ (∀ i, i < n → g' i = g i) ∧ (∀ y, y ∈ rd' → y ∈ rd ∨ ((y = 0 ∨ (RB x y ∧ y < n)) ∧ y < lim))) ?_ ?_
    · skip
      repeat apply W.seq
      apply W.region
      · simp (disch := first | omega | (simp (disch := omega) [ev_tmp, ev_const, get_of, upd_same, upd_ne, Tryd.underlying3, Tryd.underlying83, Tryd.underlying5, Tryd.underlying29, Tryd.underlying32, Tryd.underlying22]; done) | (apply inK_i64; omega) | (apply inK_u64; omega)) only [op_len, cond_true, cond_false, pick_on, stepC_if, goC_true, goC_false, guard_tt, guard_tf, guard_ft, guard_ff, slot_zero, slot_succ, put_some, runC_cons, runC_nil, stepC_free, dstC_dst, dstC_none, thenC_some, cop_assign, cop_move, cop_conv, cop_bin, cop_un, cop_pick, cop_index, cop_indexAddr, cop_load, cop_store, cop_alloc, cop_box, cop_build, cop_slice, cop_s2a, cop_field, cop_fieldAddr, cop_extract, cop_nilCheck, cop_call, cop_builtin, cop_buildSlice, ev_tmp, ev_const, ev_global, ev_func, put_of, get_of, upd_same, upd_ne, List.toList_toArray, List.map_cons, List.map_nil, some_map, none_map, ti3, ti83, ti5, ti29, ti32]
        with_reducible rfl
      simp only [onN, onB]
      repeat apply W.seq
      apply W.block
      refine W.loop (fun m fr s => ∃ (t : Nat) (h : Nat → Value) (g' : Nat → Fam) (rd' : List Nat), t ≤ 64 ∧ m = 64 - t ∧ fr = Fr.of 148 h ∧ s = St (n3 + 1 + 1) g' lim rd' wr ∧ h 4 = .slice (some (mkA f u 0)) Q.length Q.length ∧ h 2 = .pointer (some (mkA n (n * 1024 + 0) 0)) ∧ h 3 = .pointer (some (mkA (n + 1) ((n + 1) * 1024 + 0) 0)) ∧ h 5 = .int .i64 ((64 * i : Nat) : Int) ∧ h 6 = .pointer (some (mkA n3 (n3 * 1024 + 0) 0)) ∧ h 7 = .pointer (some (mkA (n3 + 1) ((n3 + 1) * 1024 + 0) 0)) ∧ h 8 = .int .i64 (t : Int) ∧ g' n = ⟨false, [(n * 1024 + 0, List.replicate 32 (vb 0))], none⟩ ∧ g' (n + 1) = ⟨false, [((n + 1) * 1024 + 0, wvs (blocks Q i))], none⟩ ∧ g' n3 = ⟨false, [(n3 * 1024 + 0, wvs (sched bk 64))], none⟩ ∧ g' (n3 + 1) = ⟨false, [((n3 + 1) * 1024 + 0, wvs ((rds (blocks Q i) (sched bk 64) KW t).1 ++ (rds (blocks Q i) (sched bk 64) KW t).2))], none⟩ ∧ g' f = ⟨false, (u, bvs Q) :: rest, none⟩ ∧ (∀ i, i < n → g' i = g i) ∧ (∀ y, y ∈ rd' → y ∈ rd ∨ ((y = 0 ∨ (RB x y ∧ y < n)) ∧ y < lim))) ?_ (64 - 0) _ _ ⟨0, _, g4, rd3, by omega, rfl, rfl, rfl, ?_, ?_, ?_, ?_, ?_, ?_, ?_, v2, v1, w1, ?_, vf, v0, hrd3⟩
      case refine_2 => simp (disch := omega) only [upd_same, upd_ne, h4]
      case refine_3 => simp (disch := omega) only [upd_same, upd_ne, h2]
      case refine_4 => simp (disch := omega) only [upd_same, upd_ne, h3]
      case refine_5 => simp (disch := omega) only [upd_same, upd_ne, h5]
      case refine_6 => simp (disch := omega) only [upd_same, upd_ne]
      case refine_7 => simp (disch := omega) only [upd_same, upd_ne]
      case refine_8 => simp (disch := omega) only [upd_same, upd_ne]; rfl
      case refine_9 => rw [w2]; simp only [rds, List.take_append_drop]
      clear h4 h2 h3 h5 v2 v1 w1 w2 vf v0 hrd3
      rintro m fr s ⟨t, h, g', rd', ht, rfl, rfl, rfl, h4, h2, h3, h5, h6, h7, h8, q2, q1, qw, qv, qf, q0, hrd⟩
      repeat apply W.seq
      apply W.region
      · simp (disch := first | omega | (simp (disch := omega) [ev_tmp, ev_const, get_of, upd_same, upd_ne, h8, Tryd.underlying3, Tryd.underlying83, Tryd.underlying5, Tryd.underlying29, Tryd.underlying32, Tryd.underlying22]; done) | (apply inK_i64; omega) | (apply inK_u64; omega)) only [op_len, cond_true, cond_false, pick_on, stepC_if, goC_true, goC_false, guard_tt, guard_tf, guard_ft, guard_ff, slot_zero, slot_succ, put_some, runC_cons, runC_nil, stepC_free, dstC_dst, dstC_none, thenC_some, cop_assign, cop_move, cop_conv, cop_bin, cop_un, cop_pick, cop_index, cop_indexAddr, cop_load, cop_store, cop_alloc, cop_box, cop_build, cop_slice, cop_s2a, cop_field, cop_fieldAddr, cop_extract, cop_nilCheck, cop_call, cop_builtin, cop_buildSlice, ev_tmp, ev_const, ev_global, ev_func, put_of, get_of, upd_same, upd_ne, List.toList_toArray, List.map_cons, List.map_nil, some_map, none_map, ti3, ti83, ti5, ti29, ti32, oi_lss, h8]
        with_reducible rfl
      simp only [onN, onB]
      by_cases hl64 : (t : Int) < 64
      case neg =>
        repeat apply W.seq
        refine W.cond (b := false) ?_ ?_
        · simp (disch := omega) only [ev_tmp, get_of, upd_same, upd_ne, hl64, decide_true, decide_false]
        simp only [cond_true, cond_false]
        apply W.exit
        simp only [onN, onB, Nat.beq_refl, cond_true]
        have hte : t = 64 := by omega
        subst hte
        exact ⟨by first | rfl | trivial, _, g', rd', rfl, rfl, by simp (disch := omega) only [upd_same, upd_ne, h4], by simp (disch := omega) only [upd_same, upd_ne, h2], by simp (disch := omega) only [upd_same, upd_ne, h3], by simp (disch := omega) only [upd_same, upd_ne, h5], by simp (disch := omega) only [upd_same, upd_ne, h7], q2, q1, qv, qf, q0, hrd⟩
      repeat apply W.seq
      refine W.cond (b := true) ?_ ?_
      · simp (disch := omega) only [ev_tmp, get_of, upd_same, upd_ne, hl64, decide_true, decide_false]
      simp only [cond_true, cond_false]
      apply W.skip
      simp only [onN, onB]
      have htl : t < 64 := by omega
      obtain ⟨l1, l2⟩ := rds_len (blocks Q i) (sched bk 64) KW hbl8 t
      have hstep : rds (blocks Q i) (sched bk 64) KW (t + 1) = ([rx (rds (blocks Q i) (sched bk 64) KW t).2 (KW.getD t 0) ((sched bk 64).getD t 0) + ry (rds (blocks Q i) (sched bk 64) KW t).1, (rds (blocks Q i) (sched bk 64) KW t).1.getD 0 0, (rds (blocks Q i) (sched bk 64) KW t).1.getD 1 0, (rds (blocks Q i) (sched bk 64) KW t).1.getD 2 0], [(rds (blocks Q i) (sched bk 64) KW t).1.getD 3 0 + rx (rds (blocks Q i) (sched bk 64) KW t).2 (KW.getD t 0) ((sched bk 64).getD t 0), (rds (blocks Q i) (sched bk 64) KW t).2.getD 0 0, (rds (blocks Q i) (sched bk 64) KW t).2.getD 1 0, (rds (blocks Q i) (sched bk 64) KW t).2.getD 2 0]) := rfl
      generalize (rds (blocks Q i) (sched bk 64) KW t).1 = V at *
      generalize (rds (blocks Q i) (sched bk 64) KW t).2 = E at *
      obtain ⟨v0, v1, v2, v3, rfl⟩ := len4 l1
      obtain ⟨e0, e1, e2, e3, rfl⟩ := len4 l2
      have QV := fun (j : Nat) (y : UInt32) (hy : (wvs ([v0, v1, v2, v3] ++ [e0, e1, e2, e3]))[j]? = some (vw y)) => ld_q (n := n3 + 1 + 1) (ti29 ax) rfl (g := g') (f := n3 + 1) (u := (n3 + 1) * 1024 + 0) (off := 0 + j) (cs := wvs ([v0, v1, v2, v3] ++ [e0, e1, e2, e3])) (v := vw y) (by rw [qv]; exact rowOf_one) (by rw [Nat.zero_add]; exact hy) (by omega)
      have LV := fun (j : Nat) (y : UInt32) (hy : (wvs ([v0, v1, v2, v3] ++ [e0, e1, e2, e3]))[j]? = some (vw y)) (rd : List Nat) => ld_one (n := n3 + 1 + 1) (lim := lim) (rd := rd) (wr := wr) (ti29 ax) rfl (g := g') (f := n3 + 1) (u := (n3 + 1) * 1024 + 0) (off := 0 + j) (cs := wvs ([v0, v1, v2, v3] ++ [e0, e1, e2, e3])) (v := vw y) (by rw [qv]; exact rowOf_one) (by rw [Nat.zero_add]; exact hy)
      have QK := ld_q (n := n3 + 1 + 1) (ti29 ax) rfl (g := g') (f := 0) (u := 0 * 1024) (off := 0 + t) (cs := wvs KW) (by rw [q0 _ hG]; exact hk) (by rw [Nat.zero_add]; exact wvs_get (by rw [KW_len]; omega)) (by omega)
      have QW := ld_q (n := n3 + 1 + 1) (ti29 ax) rfl (g := g') (f := n3) (u := n3 * 1024 + 0) (off := 0 + t) (cs := wvs (sched bk 64)) (by rw [qw]; exact rowOf_one) (by rw [Nat.zero_add]; exact wvs_get (by rw [sched_len]; omega)) (by omega)
      have I1 := fun l => ins_ge (m := lim) (f := n3 + 1) l (by omega)
      have I3 := fun l => ins_ge (m := lim) (f := n3) l (by omega)
      simp only [I1] at LV
      have cff : Value.int .u32 4294967295 = vw 4294967295 := rfl
      have R6 : ∀ x s, callR Tryd.prog (EE ax) 52 [vw x, .int .i64 6] s = some (vw (rotr32 x 6), s) := fun x s => rotr_run ax hp x 6 (by omega) (by omega) s
      have R11 : ∀ x s, callR Tryd.prog (EE ax) 52 [vw x, .int .i64 11] s = some (vw (rotr32 x 11), s) := fun x s => rotr_run ax hp x 11 (by omega) (by omega) s
      have R25 : ∀ x s, callR Tryd.prog (EE ax) 52 [vw x, .int .i64 25] s = some (vw (rotr32 x 25), s) := fun x s => rotr_run ax hp x 25 (by omega) (by omega) s
      have R2 : ∀ x s, callR Tryd.prog (EE ax) 52 [vw x, .int .i64 2] s = some (vw (rotr32 x 2), s) := fun x s => rotr_run ax hp x 2 (by omega) (by omega) s
      have R13 : ∀ x s, callR Tryd.prog (EE ax) 52 [vw x, .int .i64 13] s = some (vw (rotr32 x 13), s) := fun x s => rotr_run ax hp x 13 (by omega) (by omega) s
      have R22 : ∀ x s, callR Tryd.prog (EE ax) 52 [vw x, .int .i64 22] s = some (vw (rotr32 x 22), s) := fun x s => rotr_run ax hp x 22 (by omega) (by omega) s
      repeat apply W.seq
      apply W.block
      repeat apply W.seq
      apply W.quiet
      · simp (disch := first | omega | (simp (disch := omega) [ev_tmp, ev_const, get_of, upd_same, upd_ne, h6, h7, h8, cff, Tryd.underlying3, Tryd.underlying83, Tryd.underlying5, Tryd.underlying29, Tryd.underlying32, Tryd.underlying22]; done) | (apply inK_i64; omega) | (apply inK_u64; omega)) only [op_len, cond_true, cond_false, pick_on, stepC_if, goC_true, goC_false, guard_tt, guard_tf, guard_ft, guard_ff, slot_zero, slot_succ, put_some, runC_cons, runC_nil, stepC_free, dstC_dst, dstC_none, thenC_some, cop_assign, cop_move, cop_conv, cop_bin, cop_un, cop_pick, cop_index, cop_indexAddr, cop_load, cop_store, cop_alloc, cop_box, cop_build, cop_slice, cop_s2a, cop_field, cop_fieldAddr, cop_extract, cop_nilCheck, cop_call, cop_builtin, cop_buildSlice, ev_tmp, ev_const, ev_global, ev_func, put_of, get_of, upd_same, upd_ne, List.toList_toArray, List.map_cons, List.map_nil, some_map, none_map, ti3, ti83, ti5, ti29, ti32, quietC_cons, quietC_nil, inner_st, thenQ_same, thenQ_rd, h6, h7, h8, natOf_nat, natOf_lit, idx_arr (ti30 ax) (ti29 ax) (show 4 < 8 by omega), idx_arr (ti30 ax) (ti29 ax) (show 5 < 8 by omega), idx_arr (ti30 ax) (ti29 ax) (show 6 < 8 by omega), idx_arr (ti30 ax) (ti29 ax) (show 7 < 8 by omega), idx_arr (ti75 ax) (ti29 ax) htl, QV 4 e0 rfl, QV 5 e1 rfl, QV 6 e2 rfl, QV 7 e3 rfl, QK, QW, R6, R11, R25, cff, bw_xor, bw_and, bw_add, xor_ff, I1, I3]
        with_reducible rfl
      simp only [onN, onB]
      repeat apply W.seq
      apply W.quiet
      · simp (disch := first | omega | (simp (disch := omega) [ev_tmp, ev_const, get_of, upd_same, upd_ne, h7, Tryd.underlying3, Tryd.underlying83, Tryd.underlying5, Tryd.underlying29, Tryd.underlying32, Tryd.underlying22]; done) | (apply inK_i64; omega) | (apply inK_u64; omega)) only [op_len, cond_true, cond_false, pick_on, stepC_if, goC_true, goC_false, guard_tt, guard_tf, guard_ft, guard_ff, slot_zero, slot_succ, put_some, runC_cons, runC_nil, stepC_free, dstC_dst, dstC_none, thenC_some, cop_assign, cop_move, cop_conv, cop_bin, cop_un, cop_pick, cop_index, cop_indexAddr, cop_load, cop_store, cop_alloc, cop_box, cop_build, cop_slice, cop_s2a, cop_field, cop_fieldAddr, cop_extract, cop_nilCheck, cop_call, cop_builtin, cop_buildSlice, ev_tmp, ev_const, ev_global, ev_func, put_of, get_of, upd_same, upd_ne, List.toList_toArray, List.map_cons, List.map_nil, some_map, none_map, ti3, ti83, ti5, ti29, ti32, quietC_cons, quietC_nil, inner_st, thenQ_same, thenQ_rd, h7, natOf_lit, idx_arr (ti30 ax) (ti29 ax) (show 0 < 8 by omega), idx_arr (ti30 ax) (ti29 ax) (show 1 < 8 by omega), idx_arr (ti30 ax) (ti29 ax) (show 2 < 8 by omega), QV 0 v0 rfl, QV 1 v1 rfl, QV 2 v2 rfl, R2, R13, R22, bw_xor, bw_and, bw_add, I1]
        with_reducible rfl
      simp only [onN, onB]
      have SE := fun a b rd => st_all (n := n3 + 1 + 1) (lim := lim) (rd := rd) (wr := wr) (ti30 ax) (f := n3 + 1) (u := (n3 + 1) * 1024 + 0) (vs := [vw a, vw v0, vw v1, vw v2, vw b, vw e0, vw e1, vw e2]) qv rfl rfl rfl
      simp only [I1] at SE
      repeat apply W.seq
      apply W.region
      · simp (disch := first | omega | (simp (disch := omega) [ev_tmp, ev_const, get_of, upd_same, upd_ne, h7, cells_vw, Tryd.underlying3, Tryd.underlying83, Tryd.underlying5, Tryd.underlying29, Tryd.underlying32, Tryd.underlying22]; done) | (apply inK_i64; omega) | (apply inK_u64; omega)) only [op_len, cond_true, cond_false, pick_on, stepC_if, goC_true, goC_false, guard_tt, guard_tf, guard_ft, guard_ff, slot_zero, slot_succ, put_some, runC_cons, runC_nil, stepC_free, dstC_dst, dstC_none, thenC_some, cop_assign, cop_move, cop_conv, cop_bin, cop_un, cop_pick, cop_index, cop_indexAddr, cop_load, cop_store, cop_alloc, cop_box, cop_build, cop_slice, cop_s2a, cop_field, cop_fieldAddr, cop_extract, cop_nilCheck, cop_call, cop_builtin, cop_buildSlice, ev_tmp, ev_const, ev_global, ev_func, put_of, get_of, upd_same, upd_ne, List.toList_toArray, List.map_cons, List.map_nil, some_map, none_map, ti3, ti83, ti5, ti29, ti32, h7, natOf_lit, idx_arr (ti30 ax) (ti29 ax) (show 0 < 8 by omega), idx_arr (ti30 ax) (ti29 ax) (show 1 < 8 by omega), idx_arr (ti30 ax) (ti29 ax) (show 2 < 8 by omega), idx_arr (ti30 ax) (ti29 ax) (show 3 < 8 by omega), idx_arr (ti30 ax) (ti29 ax) (show 4 < 8 by omega), idx_arr (ti30 ax) (ti29 ax) (show 5 < 8 by omega), idx_arr (ti30 ax) (ti29 ax) (show 6 < 8 by omega), LV 0 v0 rfl, LV 1 v1 rfl, LV 2 v2 rfl, LV 3 v3 rfl, LV 4 e0 rfl, LV 5 e1 rfl, LV 6 e2 rfl, bw_add, build_arr8 (ti30 ax) (ti29 ax), cells_agg, SE]
        with_reducible rfl
      simp only [onN, onB]
      repeat apply W.seq
      apply W.region
      · simp (disch := first | omega | (simp (disch := omega) [ev_tmp, ev_const, get_of, upd_same, upd_ne, h8, Tryd.underlying3, Tryd.underlying83, Tryd.underlying5, Tryd.underlying29, Tryd.underlying32, Tryd.underlying22]; done) | (apply inK_i64; omega) | (apply inK_u64; omega)) only [op_len, cond_true, cond_false, pick_on, stepC_if, goC_true, goC_false, guard_tt, guard_tf, guard_ft, guard_ff, slot_zero, slot_succ, put_some, runC_cons, runC_nil, stepC_free, dstC_dst, dstC_none, thenC_some, cop_assign, cop_move, cop_conv, cop_bin, cop_un, cop_pick, cop_index, cop_indexAddr, cop_load, cop_store, cop_alloc, cop_box, cop_build, cop_slice, cop_s2a, cop_field, cop_fieldAddr, cop_extract, cop_nilCheck, cop_call, cop_builtin, cop_buildSlice, ev_tmp, ev_const, ev_global, ev_func, put_of, get_of, upd_same, upd_ne, List.toList_toArray, List.map_cons, List.map_nil, some_map, none_map, ti3, ti83, ti5, ti29, ti32, oi_add, h8]
        with_reducible rfl
      simp only [onN, onB]
      refine ⟨64 - (t + 1), by omega, t + 1, _, _, _, by omega, rfl, rfl, rfl, ?_, ?_, ?_, ?_, ?_, ?_, ?_, ?_, ?_, ?_, ?_, ?_, ?_, ?_⟩
      · simp (disch := omega) only [upd_same, upd_ne, h4]
      · simp (disch := omega) only [upd_same, upd_ne, h2]
      · simp (disch := omega) only [upd_same, upd_ne, h3]
      · simp (disch := omega) only [upd_same, upd_ne, h5]
      · simp (disch := omega) only [upd_same, upd_ne, h6]
      · simp (disch := omega) only [upd_same, upd_ne, h7]
      · simp (disch := omega) only [upd_same, upd_ne]; rfl
      · rw [fupd_ne _ _ _ _ (by omega)]; exact q2
      · rw [fupd_ne _ _ _ _ (by omega)]; exact q1
      · rw [fupd_ne _ _ _ _ (by omega)]; exact qw
      · rw [fupd_same, hstep]; rfl
      · rw [fupd_ne _ _ _ _ (by omega)]; exact qf
      · intro i hi; rw [fupd_ne _ _ _ _ (by omega)]; exact q0 i hi
      · intro y hy
        rcases mem_ins hy with hy | ⟨rfl, hy⟩
        · exact hrd y hy
        · exact .inr ⟨.inl rfl, hy⟩
    clear h4 h2 h3 h5 v2 v1 w1 w2 vf v0 hrd3
    rintro fr s ⟨h, g', rd', rfl, rfl, h4, h2, h3, h5, h7, q2, q1, qv, qf, q0, hrd⟩
    obtain ⟨l1, l2⟩ := rds_len (blocks Q i) (sched bk 64) KW hbl8 64
    have hcomp : blocks Q (i + 1) = smW (blocks Q i) ((rds (blocks Q i) (sched bk 64) KW 64).1 ++ (rds (blocks Q i) (sched bk 64) KW 64).2) 8 := by
      rw [sm_fin _ _ _ hbl8 l1 l2, blocks, hBk]; rfl
    have lv : ((rds (blocks Q i) (sched bk 64) KW 64).1 ++ (rds (blocks Q i) (sched bk 64) KW 64).2).length = 8 := by rw [List.length_append, l1, l2]
    generalize ((rds (blocks Q i) (sched bk 64) KW 64).1 ++ (rds (blocks Q i) (sched bk 64) KW 64).2) = VV at *
    repeat apply W.seq
    apply W.region
    · simp (disch := first | omega | (simp (disch := omega) [ev_tmp, ev_const, get_of, upd_same, upd_ne, Tryd.underlying3, Tryd.underlying83, Tryd.underlying5, Tryd.underlying29, Tryd.underlying32, Tryd.underlying22]; done) | (apply inK_i64; omega) | (apply inK_u64; omega)) only [op_len, cond_true, cond_false, pick_on, stepC_if, goC_true, goC_false, guard_tt, guard_tf, guard_ft, guard_ff, slot_zero, slot_succ, put_some, runC_cons, runC_nil, stepC_free, dstC_dst, dstC_none, thenC_some, cop_assign, cop_move, cop_conv, cop_bin, cop_un, cop_pick, cop_index, cop_indexAddr, cop_load, cop_store, cop_alloc, cop_box, cop_build, cop_slice, cop_s2a, cop_field, cop_fieldAddr, cop_extract, cop_nilCheck, cop_call, cop_builtin, cop_buildSlice, ev_tmp, ev_const, ev_global, ev_func, put_of, get_of, upd_same, upd_ne, List.toList_toArray, List.map_cons, List.map_nil, some_map, none_map, ti3, ti83, ti5, ti29, ti32]
      with_reducible rfl
    simp only [onN, onB]
    repeat apply W.seq
    apply W.block
    refine W.loop (fun m fr s => ∃ (t : Nat) (h : Nat → Value) (g' : Nat → Fam) (rd' : List Nat), t ≤ 8 ∧ m = 8 - t ∧ fr = Fr.of 148 h ∧ s = St (n3 + 1 + 1) g' lim rd' wr ∧ h 4 = .slice (some (mkA f u 0)) Q.length Q.length ∧ h 2 = .pointer (some (mkA n (n * 1024 + 0) 0)) ∧ h 3 = .pointer (some (mkA (n + 1) ((n + 1) * 1024 + 0) 0)) ∧ h 5 = .int .i64 ((64 * i : Nat) : Int) ∧ h 7 = .pointer (some (mkA (n3 + 1) ((n3 + 1) * 1024 + 0) 0)) ∧ h 11 = .int .i64 (t : Int) ∧ g' n = ⟨false, [(n * 1024 + 0, List.replicate 32 (vb 0))], none⟩ ∧ g' (n + 1) = ⟨false, [((n + 1) * 1024 + 0, wvs (smW (blocks Q i) VV t))], none⟩ ∧ g' (n3 + 1) = ⟨false, [((n3 + 1) * 1024 + 0, wvs VV)], none⟩ ∧ g' f = ⟨false, (u, bvs Q) :: rest, none⟩ ∧ (∀ i, i < n → g' i = g i) ∧ (∀ y, y ∈ rd' → y ∈ rd ∨ ((y = 0 ∨ (RB x y ∧ y < n)) ∧ y < lim))) ?_ (8 - 0) _ _ ⟨0, _, g', rd', by omega, rfl, rfl, rfl, ?_, ?_, ?_, ?_, ?_, ?_, q2, q1, qv, qf, q0, hrd⟩
    case refine_2 => simp (disch := omega) only [upd_same, upd_ne, h4]
    case refine_3 => simp (disch := omega) only [upd_same, upd_ne, h2]
    case refine_4 => simp (disch := omega) only [upd_same, upd_ne, h3]
    case refine_5 => simp (disch := omega) only [upd_same, upd_ne, h5]
    case refine_6 => simp (disch := omega) only [upd_same, upd_ne, h7]
    case refine_7 => simp (disch := omega) only [upd_same, upd_ne]; rfl
    clear h4 h2 h3 h5 h7 q2 q1 qv qf q0 hrd
    rintro m fr s ⟨t, h, g', rd', ht, rfl, rfl, rfl, h4, h2, h3, h5, h7, h11, q2, q1, qv, qf, q0, hrd⟩
    repeat apply W.seq
    apply W.region
    · simp (disch := first | omega | (simp (disch := omega) [ev_tmp, ev_const, get_of, upd_same, upd_ne, h11, Tryd.underlying3, Tryd.underlying83, Tryd.underlying5, Tryd.underlying29, Tryd.underlying32, Tryd.underlying22]; done) | (apply inK_i64; omega) | (apply inK_u64; omega)) only [op_len, cond_true, cond_false, pick_on, stepC_if, goC_true, goC_false, guard_tt, guard_tf, guard_ft, guard_ff, slot_zero, slot_succ, put_some, runC_cons, runC_nil, stepC_free, dstC_dst, dstC_none, thenC_some, cop_assign, cop_move, cop_conv, cop_bin, cop_un, cop_pick, cop_index, cop_indexAddr, cop_load, cop_store, cop_alloc, cop_box, cop_build, cop_slice, cop_s2a, cop_field, cop_fieldAddr, cop_extract, cop_nilCheck, cop_call, cop_builtin, cop_buildSlice, ev_tmp, ev_const, ev_global, ev_func, put_of, get_of, upd_same, upd_ne, List.toList_toArray, List.map_cons, List.map_nil, some_map, none_map, ti3, ti83, ti5, ti29, ti32, oi_lss, h11]
      with_reducible rfl
    simp only [onN, onB]
    by_cases hl8 : (t : Int) < 8
    case neg =>
      repeat apply W.seq
      refine W.cond (b := false) ?_ ?_
      · simp (disch := omega) only [ev_tmp, get_of, upd_same, upd_ne, hl8, decide_true, decide_false]
      simp only [cond_true, cond_false]
      apply W.exit
      simp only [onN, onB, Nat.beq_refl, cond_true, cond_false, bexit]
      have hte : t = 8 := by omega
      subst hte
      have c6 : ((64 * i : Nat) : Int) + 64 = ((64 * (i + 1) : Nat) : Int) := by omega
      repeat apply W.seq
      apply W.region
      · simp (disch := first | omega | (simp (disch := omega) [ev_tmp, ev_const, get_of, upd_same, upd_ne, h5, Tryd.underlying3, Tryd.underlying83, Tryd.underlying5, Tryd.underlying29, Tryd.underlying32, Tryd.underlying22]; done) | (apply inK_i64; omega) | (apply inK_u64; omega) | (rw [c6]; apply inK_i64; omega)) only [op_len, cond_true, cond_false, pick_on, stepC_if, goC_true, goC_false, guard_tt, guard_tf, guard_ft, guard_ff, slot_zero, slot_succ, put_some, runC_cons, runC_nil, stepC_free, dstC_dst, dstC_none, thenC_some, cop_assign, cop_move, cop_conv, cop_bin, cop_un, cop_pick, cop_index, cop_indexAddr, cop_load, cop_store, cop_alloc, cop_box, cop_build, cop_slice, cop_s2a, cop_field, cop_fieldAddr, cop_extract, cop_nilCheck, cop_call, cop_builtin, cop_buildSlice, ev_tmp, ev_const, ev_global, ev_func, put_of, get_of, upd_same, upd_ne, List.toList_toArray, List.map_cons, List.map_nil, some_map, none_map, ti3, ti83, ti5, ti29, ti32, oi_add, h5, c6]
        with_reducible rfl
      simp only [onN, onB]
      refine ⟨Q.length - 64 * (i + 1), by omega, i + 1, _, n3 + 1 + 1, g', rd', by omega, rfl, rfl, rfl, by omega, ?_, ?_, ?_, ?_, q2, by rw [hcomp]; exact q1, qf, q0, hrd⟩
      · simp (disch := omega) only [upd_same, upd_ne, h4]
      · simp (disch := omega) only [upd_same, upd_ne, h2]
      · simp (disch := omega) only [upd_same, upd_ne, h3]
      · simp (disch := omega) only [upd_same, upd_ne]
    repeat apply W.seq
    refine W.cond (b := true) ?_ ?_
    · simp (disch := omega) only [ev_tmp, get_of, upd_same, upd_ne, hl8, decide_true, decide_false]
    simp only [cond_true, cond_false]
    apply W.skip
    simp only [onN, onB]
    have htl : t < 8 := by omega
    have hsl := smW_len (blocks Q i) VV t
    have A1 := ld_q (n := n3 + 1 + 1) (ti29 ax) rfl (g := g') (f := n + 1) (u := (n + 1) * 1024 + 0) (off := 0 + t) (cs := wvs (smW (blocks Q i) VV t)) (by rw [q1]; exact rowOf_one) (by rw [Nat.zero_add]; exact wvs_get (by omega)) (by omega)
    have A2 := ld_q (n := n3 + 1 + 1) (ti29 ax) rfl (g := g') (f := n3 + 1) (u := (n3 + 1) * 1024 + 0) (off := 0 + t) (cs := wvs VV) (by rw [qv]; exact rowOf_one) (by rw [Nat.zero_add]; exact wvs_get (by omega)) (by omega)
    have A3 := fun v hv => st_q (n := n3 + 1 + 1) (ti29 ax) (g := g') (f := n + 1) (u := (n + 1) * 1024 + 0) (off := 0 + t) (v := v) q1 (by rw [wvs_len]; omega) hv (by omega)
    have J1 := fun l => ins_ge (m := lim) (f := n3 + 1) l (by omega)
    have J2 := fun l => ins_ge (m := lim) (f := n + 1) l (by omega)
    repeat apply W.seq
    apply W.block
    repeat apply W.seq
    apply W.last
    · kernel_rfl
    · simp (disch := first | omega | (simp (disch := omega) [ev_tmp, ev_const, get_of, upd_same, upd_ne, h3, h7, h11, Tryd.underlying3, Tryd.underlying83, Tryd.underlying5, Tryd.underlying29, Tryd.underlying32, Tryd.underlying22]; done) | (apply inK_i64; omega) | (apply inK_u64; omega)) only [op_len, cond_true, cond_false, pick_on, stepC_if, goC_true, goC_false, guard_tt, guard_tf, guard_ft, guard_ff, slot_zero, slot_succ, put_some, runC_cons, runC_nil, stepC_free, dstC_dst, dstC_none, thenC_some, cop_assign, cop_move, cop_conv, cop_bin, cop_un, cop_pick, cop_index, cop_indexAddr, cop_load, cop_store, cop_alloc, cop_box, cop_build, cop_slice, cop_s2a, cop_field, cop_fieldAddr, cop_extract, cop_nilCheck, cop_call, cop_builtin, cop_buildSlice, ev_tmp, ev_const, ev_global, ev_func, put_of, get_of, upd_same, upd_ne, List.toList_toArray, List.map_cons, List.map_nil, some_map, none_map, ti3, ti83, ti5, ti29, ti32, quietL_cons, quietL_one, inner_st, thenL_same, thenL_rd, lastL_some, insAll_nil, insAll_cons, h3, h7, h11, natOf_nat, idx_arr (ti30 ax) (ti29 ax) htl, A1, A2, A3 _ (vw_one _), bw_add, cells_vw, J1, J2]
      with_reducible rfl
    simp only [onN, onB]
    repeat apply W.seq
    apply W.region
    · simp (disch := first | omega | (simp (disch := omega) [ev_tmp, ev_const, get_of, upd_same, upd_ne, h11, Tryd.underlying3, Tryd.underlying83, Tryd.underlying5, Tryd.underlying29, Tryd.underlying32, Tryd.underlying22]; done) | (apply inK_i64; omega) | (apply inK_u64; omega)) only [op_len, cond_true, cond_false, pick_on, stepC_if, goC_true, goC_false, guard_tt, guard_tf, guard_ft, guard_ff, slot_zero, slot_succ, put_some, runC_cons, runC_nil, stepC_free, dstC_dst, dstC_none, thenC_some, cop_assign, cop_move, cop_conv, cop_bin, cop_un, cop_pick, cop_index, cop_indexAddr, cop_load, cop_store, cop_alloc, cop_box, cop_build, cop_slice, cop_s2a, cop_field, cop_fieldAddr, cop_extract, cop_nilCheck, cop_call, cop_builtin, cop_buildSlice, ev_tmp, ev_const, ev_global, ev_func, put_of, get_of, upd_same, upd_ne, List.toList_toArray, List.map_cons, List.map_nil, some_map, none_map, ti3, ti83, ti5, ti29, ti32, oi_add, h11]
      with_reducible rfl
    simp only [onN, onB]
    refine ⟨8 - (t + 1), by omega, t + 1, _, _, rd', by omega, rfl, rfl, rfl, ?_, ?_, ?_, ?_, ?_, ?_, ?_, ?_, ?_, ?_, ?_, hrd⟩
    · simp (disch := omega) only [upd_same, upd_ne, h4]
    · simp (disch := omega) only [upd_same, upd_ne, h2]
    · simp (disch := omega) only [upd_same, upd_ne, h3]
    · simp (disch := omega) only [upd_same, upd_ne, h5]
    · simp (disch := omega) only [upd_same, upd_ne, h7]
    · simp (disch := omega) only [upd_same, upd_ne]; rfl
    · rw [fupd_ne _ _ _ _ (by omega)]; exact q2
    · rw [fupd_same, Nat.zero_add, wvs_set]; rfl
    · rw [fupd_ne _ _ _ _ (by omega)]; exact qv
    · rw [fupd_ne _ _ _ _ (by omega)]; exact qf
    · intro i hi; rw [fupd_ne _ _ _ _ (by omega)]; exact q0 i hi
  clear e2 o2 of1 p0 p1 p2 hrd2 a2 a3 hb2
  rintro fr s ⟨h, n', g', rd', rfl, rfl, hn, h4, h2, h3, q2, q1, qf, q0, hrd⟩
  have hsha : sha bs = outs (blocks Q (Q.length / 64)) 32 := by unfold sha shaW; rw [hbl, hQ]
  have m8 := blocks_len Q (Q.length / 64)
  generalize blocks Q (Q.length / 64) = st2 at *
  repeat apply W.seq
  apply W.region
  · simp (disch := first | omega | (simp (disch := omega) [ev_tmp, ev_const, get_of, upd_same, upd_ne, Tryd.underlying3, Tryd.underlying83, Tryd.underlying5, Tryd.underlying29, Tryd.underlying32, Tryd.underlying22]; done) | (apply inK_i64; omega) | (apply inK_u64; omega)) only [op_len, cond_true, cond_false, pick_on, stepC_if, goC_true, goC_false, guard_tt, guard_tf, guard_ft, guard_ff, slot_zero, slot_succ, put_some, runC_cons, runC_nil, stepC_free, dstC_dst, dstC_none, thenC_some, cop_assign, cop_move, cop_conv, cop_bin, cop_un, cop_pick, cop_index, cop_indexAddr, cop_load, cop_store, cop_alloc, cop_box, cop_build, cop_slice, cop_s2a, cop_field, cop_fieldAddr, cop_extract, cop_nilCheck, cop_call, cop_builtin, cop_buildSlice, ev_tmp, ev_const, ev_global, ev_func, put_of, get_of, upd_same, upd_ne, List.toList_toArray, List.map_cons, List.map_nil, some_map, none_map, ti3, ti83, ti5, ti29, ti32, alloc_st (ti24 ax)]
    with_reducible rfl
  simp only [onN, onB]
  repeat apply W.seq
  apply W.region
  · simp (disch := first | omega | (simp (disch := omega) [ev_tmp, ev_const, get_of, upd_same, upd_ne, Tryd.underlying3, Tryd.underlying83, Tryd.underlying5, Tryd.underlying29, Tryd.underlying32, Tryd.underlying22]; done) | (apply inK_i64; omega) | (apply inK_u64; omega)) only [op_len, cond_true, cond_false, pick_on, stepC_if, goC_true, goC_false, guard_tt, guard_tf, guard_ft, guard_ff, slot_zero, slot_succ, put_some, runC_cons, runC_nil, stepC_free, dstC_dst, dstC_none, thenC_some, cop_assign, cop_move, cop_conv, cop_bin, cop_un, cop_pick, cop_index, cop_indexAddr, cop_load, cop_store, cop_alloc, cop_box, cop_build, cop_slice, cop_s2a, cop_field, cop_fieldAddr, cop_extract, cop_nilCheck, cop_call, cop_builtin, cop_buildSlice, ev_tmp, ev_const, ev_global, ev_func, put_of, get_of, upd_same, upd_ne, List.toList_toArray, List.map_cons, List.map_nil, some_map, none_map, ti3, ti83, ti5, ti29, ti32]
    with_reducible rfl
  simp only [onN, onB]
  repeat apply W.seq
  apply W.block
  refine W.loop (fun m fr s => ∃ (i : Nat) (h : Nat → Value) (g2 : Nat → Fam), i ≤ 32 ∧ m = 32 - i ∧ fr = Fr.of 148 h ∧ s = St (n' + 1) g2 lim rd' wr ∧ h 2 = .pointer (some (mkA n (n * 1024 + 0) 0)) ∧ h 3 = .pointer (some (mkA (n + 1) ((n + 1) * 1024 + 0) 0)) ∧ h 12 = .pointer (some (mkA n' (n' * 1024 + 0) 0)) ∧ h 13 = .int .i64 (i : Int) ∧ g2 n = ⟨false, [(n * 1024 + 0, List.replicate 32 (vb 0))], none⟩ ∧ g2 (n + 1) = ⟨false, [((n + 1) * 1024 + 0, wvs st2)], none⟩ ∧ g2 n' = ⟨false, [(n' * 1024 + 0, bvs (outs st2 i) ++ List.replicate (32 - i) (vb 0))], none⟩ ∧ (∀ i, i < n → g2 i = g i)) ?_ (32 - 0) _ _ ⟨0, _, _, by omega, rfl, rfl, rfl, ?_, ?_, ?_, ?_, ?_, ?_, ?_, ?_⟩
  case refine_2 => simp (disch := omega) only [upd_same, upd_ne, h2]
  case refine_3 => simp (disch := omega) only [upd_same, upd_ne, h3]
  case refine_4 => simp (disch := omega) only [upd_same, upd_ne]
  case refine_5 => simp (disch := omega) only [upd_same, upd_ne]; rfl
  case refine_6 => rw [fupd_ne _ _ _ _ (by omega)]; exact q2
  case refine_7 => rw [fupd_ne _ _ _ _ (by omega)]; exact q1
  case refine_8 => rw [fupd_same]; rfl
  case refine_9 => intro i hi; rw [fupd_ne _ _ _ _ (by omega)]; exact q0 i hi
  clear q2 q1 qf q0 h4 h2 h3
  rintro m fr s ⟨i, h, g2, hi, rfl, rfl, rfl, h2, h3, h12, h13, p2, p1, p3, p0⟩
  repeat apply W.seq
  apply W.region
  · simp (disch := first | omega | (simp (disch := omega) [ev_tmp, ev_const, get_of, upd_same, upd_ne, h13, Tryd.underlying3, Tryd.underlying83, Tryd.underlying5, Tryd.underlying29, Tryd.underlying32, Tryd.underlying22]; done) | (apply inK_i64; omega) | (apply inK_u64; omega)) only [op_len, cond_true, cond_false, pick_on, stepC_if, goC_true, goC_false, guard_tt, guard_tf, guard_ft, guard_ff, slot_zero, slot_succ, put_some, runC_cons, runC_nil, stepC_free, dstC_dst, dstC_none, thenC_some, cop_assign, cop_move, cop_conv, cop_bin, cop_un, cop_pick, cop_index, cop_indexAddr, cop_load, cop_store, cop_alloc, cop_box, cop_build, cop_slice, cop_s2a, cop_field, cop_fieldAddr, cop_extract, cop_nilCheck, cop_call, cop_builtin, cop_buildSlice, ev_tmp, ev_const, ev_global, ev_func, put_of, get_of, upd_same, upd_ne, List.toList_toArray, List.map_cons, List.map_nil, some_map, none_map, ti3, ti83, ti5, ti29, ti32, oi_lss, h13]
    with_reducible rfl
  simp only [onN, onB]
  by_cases hi32 : (i : Int) < 32
  case neg =>
    repeat apply W.seq
    refine W.cond (b := false) ?_ ?_
    · simp (disch := omega) only [ev_tmp, get_of, upd_same, upd_ne, hi32, decide_true, decide_false]
    simp only [cond_true, cond_false]
    apply W.exit
    simp only [onN, onB, Nat.beq_refl, cond_true, cond_false, bexit]
    have hi' : i = 32 := by omega
    subst hi'
    have hbl : (bvs (outs st2 32) ++ List.replicate (32 - 32) (vb 0)) = bvs (sha bs) := by
      rw [Nat.sub_self, List.replicate_zero, List.append_nil, hsha]
    rw [hbl] at p3
    have L1 := ld_all (n := n' + 1) (lim := lim) (rd := rd') (wr := wr) (ti24 ax) rfl (g := g2) (f := n') (u := n' * 1024 + 0) (cs := bvs (sha bs)) (by rw [p3]; exact rowOf_one) (by rw [bvs_len, sha_len])
    rw [ins_ge (f := n') _ (by omega)] at L1
    have S1 := st_all (n := n' + 1) (lim := lim) (rd := rd') (wr := wr) (ti24 ax) (f := n) (u := n * 1024 + 0) (vs := bvs (sha bs)) p2 (by rw [bvs_len, sha_len]) (by simp) (bvs_one _)
    rw [ins_ge (f := n) _ (by omega)] at S1
    repeat apply W.seq
    apply W.region
    · simp (disch := first | omega | (simp (disch := omega) [ev_tmp, ev_const, get_of, upd_same, upd_ne, h2, h12, Tryd.underlying3, Tryd.underlying83, Tryd.underlying5, Tryd.underlying29, Tryd.underlying32, Tryd.underlying22]; done) | (apply inK_i64; omega) | (apply inK_u64; omega)) only [op_len, cond_true, cond_false, pick_on, stepC_if, goC_true, goC_false, guard_tt, guard_tf, guard_ft, guard_ff, slot_zero, slot_succ, put_some, runC_cons, runC_nil, stepC_free, dstC_dst, dstC_none, thenC_some, cop_assign, cop_move, cop_conv, cop_bin, cop_un, cop_pick, cop_index, cop_indexAddr, cop_load, cop_store, cop_alloc, cop_box, cop_build, cop_slice, cop_s2a, cop_field, cop_fieldAddr, cop_extract, cop_nilCheck, cop_call, cop_builtin, cop_buildSlice, ev_tmp, ev_const, ev_global, ev_func, put_of, get_of, upd_same, upd_ne, List.toList_toArray, List.map_cons, List.map_nil, some_map, none_map, ti3, ti83, ti5, ti29, ti32, h2, h12, L1, cells_agg, S1]
      with_reducible rfl
    simp only [onN, onB]
    apply W.ret
    refine ⟨.inr rfl, n' + 1, fupd g2 n ⟨false, [(n * 1024 + 0, bvs (sha bs))], none⟩, rd', ?_, by omega, fun i hi => by rw [fupd_ne _ _ _ _ (by omega)]; exact p0 i hi, hrd⟩
    have L2 := ld_all (n := n' + 1) (lim := lim) (rd := rd') (wr := wr) (ti24 ax) rfl (g := fupd g2 n ⟨false, [(n * 1024 + 0, bvs (sha bs))], none⟩) (f := n) (u := n * 1024 + 0) (cs := bvs (sha bs)) (by rw [fupd_same]; exact rowOf_one) (by rw [bvs_len, sha_len])
    rw [ins_ge (f := n) _ (by omega)] at L2
    simp (disch := first | omega | (simp (disch := omega) only [get_of, upd_same, upd_ne, h2]; done)) only [resC_cell (ad := mkA n (n * 1024 + 0) 0), resC_nil, Tryd.results18, L2, resThen_some, resAdd_some]
  repeat apply W.seq
  refine W.cond (b := true) ?_ ?_
  · simp (disch := omega) only [ev_tmp, get_of, upd_same, upd_ne, hi32, decide_true, decide_false]
  simp only [cond_true, cond_false]
  apply W.skip
  simp only [onN, onB]
  have hil : i < 32 := by omega
  have d1 : ((i : Nat) : Int) / 4 = ((i / 4 : Nat) : Int) := by omega
  have d2 : ((i : Nat) : Int) % 4 = ((i % 4 : Nat) : Int) := by omega
  have d3 : (8 : Int) * ((i % 4 : Nat) : Int) = ((8 * (i % 4) : Nat) : Int) := by omega
  have d4 : (24 : Int) - ((8 * (i % 4) : Nat) : Int) = ((24 - 8 * (i % 4) : Nat) : Int) := by omega
  have L1 := ld_one (n := n' + 1) (lim := lim) (rd := rd') (wr := wr) (ti29 ax) rfl (g := g2) (f := n + 1) (u := (n + 1) * 1024 + 0) (off := i / 4) (cs := wvs st2) (by rw [p1]; exact rowOf_one) (wvs_get (by omega))
  rw [ins_ge (f := n + 1) _ (by omega)] at L1
  have S1 := st_one (n := n' + 1) (lim := lim) (rd := rd') (wr := wr) (ti5 ax) (f := n') (u := n' * 1024 + 0) (off := 0 + i) (v := vb (outB st2 i)) p3 (by rw [List.length_append, bvs_len, outs_len, List.length_replicate]; omega) rfl
  rw [ins_ge (f := n') _ (by omega), Nat.zero_add, out_cells st2 i hil] at S1
  unfold outB at S1
  repeat apply W.seq
  apply W.block
  repeat apply W.seq
  apply W.region
  · simp (disch := first | omega | (simp (disch := omega) [ev_tmp, ev_const, get_of, upd_same, upd_ne, h3, h12, h13, Tryd.underlying3, Tryd.underlying83, Tryd.underlying5, Tryd.underlying29, Tryd.underlying32, Tryd.underlying22]; done) | (apply inK_i64; omega) | (apply inK_u64; omega) | (rw [d1]; apply inK_i64; omega) | (rw [d3]; apply inK_i64; omega) | (rw [d4]; apply inK_i64; omega)) only [op_len, cond_true, cond_false, pick_on, stepC_if, goC_true, goC_false, guard_tt, guard_tf, guard_ft, guard_ff, slot_zero, slot_succ, put_some, runC_cons, runC_nil, stepC_free, dstC_dst, dstC_none, thenC_some, cop_assign, cop_move, cop_conv, cop_bin, cop_un, cop_pick, cop_index, cop_indexAddr, cop_load, cop_store, cop_alloc, cop_box, cop_build, cop_slice, cop_s2a, cop_field, cop_fieldAddr, cop_extract, cop_nilCheck, cop_call, cop_builtin, cop_buildSlice, ev_tmp, ev_const, ev_global, ev_func, put_of, get_of, upd_same, upd_ne, List.toList_toArray, List.map_cons, List.map_nil, some_map, none_map, ti3, ti83, ti5, ti29, ti32, h3, h12, h13, oi_quo, d1, oi_rem, d2, oi_mul, d3, oi_sub, d4, natOf_nat, idx_arr (ti30 ax) (ti29 ax) (show i / 4 < 8 by omega), L1, bw_shr, conv_wb (ti29 ax) (ti5 ax), idx_arr (ti24 ax) (ti5 ax) hil, Nat.zero_add, cells_vb, S1]
    with_reducible rfl
  simp only [onN, onB]
  repeat apply W.seq
  apply W.region
  · simp (disch := first | omega | (simp (disch := omega) [ev_tmp, ev_const, get_of, upd_same, upd_ne, h13, Tryd.underlying3, Tryd.underlying83, Tryd.underlying5, Tryd.underlying29, Tryd.underlying32, Tryd.underlying22]; done) | (apply inK_i64; omega) | (apply inK_u64; omega)) only [op_len, cond_true, cond_false, pick_on, stepC_if, goC_true, goC_false, guard_tt, guard_tf, guard_ft, guard_ff, slot_zero, slot_succ, put_some, runC_cons, runC_nil, stepC_free, dstC_dst, dstC_none, thenC_some, cop_assign, cop_move, cop_conv, cop_bin, cop_un, cop_pick, cop_index, cop_indexAddr, cop_load, cop_store, cop_alloc, cop_box, cop_build, cop_slice, cop_s2a, cop_field, cop_fieldAddr, cop_extract, cop_nilCheck, cop_call, cop_builtin, cop_buildSlice, ev_tmp, ev_const, ev_global, ev_func, put_of, get_of, upd_same, upd_ne, List.toList_toArray, List.map_cons, List.map_nil, some_map, none_map, ti3, ti83, ti5, ti29, ti32, oi_add, h13]
    with_reducible rfl
  simp only [onN, onB]
  refine ⟨32 - (i + 1), by omega, i + 1, _, _, by omega, rfl, rfl, rfl, ?_, ?_, ?_, ?_, ?_, ?_, ?_, ?_⟩
  · simp (disch := omega) only [upd_same, upd_ne, h2]
  · simp (disch := omega) only [upd_same, upd_ne, h3]
  · simp (disch := omega) only [upd_same, upd_ne, h12]
  · simp (disch := omega) only [upd_same, upd_ne]; rfl
  · rw [fupd_ne _ _ _ _ (by omega)]; exact p2
  · rw [fupd_ne _ _ _ _ (by omega)]; exact p1
  · rw [fupd_same]
  · intro i hi; rw [fupd_ne _ _ _ _ (by omega)]; exact p0 i hi
end Go.Proofs.YtcmfoipnoejmlaaDoor
namespace Go.Proofs.YtcmfoipnoejmlaaDoor
open Go Go.RowKit
set_option linter.unusedSimpArgs false
set_option linter.unusedVariables false
set_option maxRecDepth 100000
def pkL (b : List UInt8) (c : UInt8) : Nat → List UInt8
  | 0 => []
  | i + 1 => pkL b c i ++ [b.getD i 0 ^^^ c]
theorem pkL_len (b : List UInt8) (c : UInt8) : ∀ i, (pkL b c i).length = i
  | 0 => rfl
  | i + 1 => by rw [pkL, List.length_append, pkL_len b c i]; rfl
theorem xorL_eq (b : List UInt8) (c : UInt8) : ∀ i, i ≤ b.length → xorL b c i = pkL b c i ++ b.drop i
  | 0, _ => rfl
  | i + 1, h => by
    have e := xorL_eq b c i (by omega)
    have hd : b.drop i = b.getD i 0 :: b.drop (i + 1) := drop_cons b i 0 (by omega)
    rw [xorL, e]
    have hg : (pkL b c i ++ b.drop i).getD i 0 = b.getD i 0 := by
      rw [List.getD_eq_getElem?_getD, List.getElem?_append_right (by rw [pkL_len]; exact Nat.le_refl _), pkL_len, Nat.sub_self, hd]; rfl
    rw [hg, List.set_append_right _ _ (by rw [pkL_len]; exact Nat.le_refl _), pkL_len, Nat.sub_self, hd, List.set_cons_zero, pkL, List.append_assoc]
    rfl
theorem pkL_congr (a b : List UInt8) (c : UInt8) : ∀ i, (∀ j, j < i → a.getD j 0 = b.getD j 0) → pkL a c i = pkL b c i
  | 0, _ => rfl
  | i + 1, h => by rw [pkL, pkL, pkL_congr a b c i fun j hj => h j (by omega), h i (by omega)]
theorem padS_eq (key : List UInt8) (c : UInt8) (h : key.length ≤ 64) : padS key c = pkL key c 64 := by
  have hl : (lay (List.replicate 64 0) 0 key).length = 64 := by rw [lay_len (by simp; omega)]; simp
  unfold padS
  rw [xorL_eq _ _ _ (by omega), List.drop_of_length_le (by omega), List.append_nil]
  apply pkL_congr
  intro j hj
  unfold lay
  rw [List.take_zero, List.nil_append, List.drop_replicate, List.getD_eq_getElem?_getD, List.getD_eq_getElem?_getD]
  by_cases hk : j < key.length
  · rw [List.getElem?_append_left hk]
  · rw [List.getElem?_append_right (by omega), List.getElem?_eq_none (l := key) (by omega), List.getElem?_replicate_of_lt (by omega)]; rfl
theorem idx_str {Γ : Env} {s : CS} {ty : TypeId} {z b : Nat} {zs : List Value} {k : Nat} {x : ByteArray} (h : Γ.ti.at ty = some ⟨.string, z, b, zs⟩) (hk : k < x.size) : opIndex Γ s ty (.string x) (some k) = some (vb (x.data.toList.getD k 0), s) := by
  unfold opIndex
  rw [h]
  simp only [str_at x k hk]
  rfl
theorem OwnX.barg {m n len : Nat} {g : Nat → Fam} {ao : Option Addr} {bs : List UInt8} (h : OwnX m g n 1 ao len (bvs bs)) : ByteArg g n ao len bs := by
  rcases h with ⟨h1, h⟩ | ⟨h1, f, u, rest, rfl, k2, k3, k4, k5, k6⟩
  · rw [bvs_len] at h1
    refine ⟨by omega, ?_⟩
    rcases h with ⟨rfl, rfl⟩ | ⟨f, u, rest, rfl, k2, k3, k4, k5, k6⟩
    · exact .inl rfl
    · exact .inr ⟨f, u, 0, bvs bs, rfl, k4, by rw [k2]; simp [rowOf, Nat.beq_refl], by rw [bvs_len]; omega, by rw [List.drop_zero, List.take_of_length_le (by rw [bvs_len]; omega)]⟩
  · rw [bvs_len] at h1
    exact ⟨by omega, .inr ⟨f, u, 0, bvs bs, rfl, k4, by rw [k2]; simp [rowOf, Nat.beq_refl], by rw [bvs_len]; omega, by rw [List.drop_zero, List.take_of_length_le (by rw [bvs_len]; omega)]⟩⟩
theorem OwnX.blk {m n e len : Nat} {g : Nat → Fam} {ao : Option Addr} {cells : List Value} (h : OwnX m g n e ao len cells) : ∀ y, RB ao y → m ≤ y := by
  rintro y ⟨a, rfl, rfl⟩
  rcases h with ⟨_, ⟨h, _⟩ | ⟨f, u, rest, k1, k2, k3, _⟩⟩ | ⟨_, f, u, rest, k1, k2, k3, _⟩
  · simp at h
  · simp only [Option.some.injEq] at k1; subst k1; rw [block_mk]; exact k3
  · simp only [Option.some.injEq] at k1; subst k1; rw [block_mk]; exact k3
set_option maxHeartbeats 4000000 in
theorem padk_run (ax : Axs) (hp : Plain ax) (c : UInt8) (key : ByteArray) (hkey : key.size < 1000000) (n : Nat) (g : Nat → Fam) (lim : Nat) (rd wr : List Nat) (hl : lim ≤ n) (hG : 0 < n) (hk : rowOf (g 0).rows (0 * 1024) = some (wvs KW)) :
    ∃ ao n' g' rd1, callR Tryd.prog (EE ax) 55 [.string key, vb c] (St n g lim rd wr) = some (.slice ao 64 64, St n' g' lim rd1 wr) ∧ OwnX n g' n' 1 ao 64 (bvs (padS (keyK key.data.toList) c)) ∧ n ≤ n' ∧ (∀ i, i < n → g' i = g i) ∧ (∀ y, y ∈ rd1 → y ∈ rd ∨ (y = 0 ∧ y < lim)) := by
  have hax : ax 55 = none := hp _ (by decide)
  suffices hh : ∃ v s2, callR Tryd.prog (EE ax) 55 [.string key, vb c] (St n g lim rd wr) = some (v, s2) ∧ ∃ ao n' g' rd1, v = .slice ao 64 64 ∧ s2 = St n' g' lim rd1 wr ∧ OwnX n g' n' 1 ao 64 (bvs (padS (keyK key.data.toList) c)) ∧ n ≤ n' ∧ (∀ i, i < n → g' i = g i) ∧ (∀ y, y ∈ rd1 → y ∈ rd ∨ (y = 0 ∧ y < lim)) by
    obtain ⟨v, s2, h1, ao, n', g', rd1, rfl, rfl, h2⟩ := hh
    exact ⟨ao, n', g', rd1, h1, h2⟩
  refine callR_ex (fn := Tryd.f55) 35 hax (fn55 ax) rfl Tryd.ntmps55 (by simp) ?_
  simp (disch := omega) only [ofArgs_cons, ofArgs_nil, Nat.reduceAdd]
  repeat apply W.seq
  apply W.region
  · simp (disch := first | omega | (simp (disch := omega) [ev_tmp, ev_const, get_of, upd_same, upd_ne, Tryd.underlying3, Tryd.underlying83, Tryd.underlying5, Tryd.underlying29, Tryd.underlying32, Tryd.underlying9, Tryd.underlying22]; done) | (apply inK_i64; omega) | (apply inK_u64; omega)) only [op_len, cond_true, cond_false, pick_on, stepC_if, goC_true, goC_false, guard_tt, guard_tf, guard_ft, guard_ff, slot_zero, slot_succ, put_some, runC_cons, runC_nil, stepC_free, dstC_dst, dstC_none, thenC_some, cop_assign, cop_move, cop_conv, cop_bin, cop_un, cop_pick, cop_index, cop_indexAddr, cop_load, cop_store, cop_alloc, cop_box, cop_build, cop_slice, cop_s2a, cop_field, cop_fieldAddr, cop_extract, cop_nilCheck, cop_call, cop_builtin, cop_buildSlice, ev_tmp, ev_const, ev_global, ev_func, put_of, get_of, upd_same, upd_ne, List.toList_toArray, List.map_cons, List.map_nil, some_map, none_map, ti3, ti83, ti5, ti29, ti32]
    with_reducible rfl
  simp only [onN, onB]
  repeat apply W.seq
  apply W.region
  · simp (disch := first | omega | (simp (disch := omega) [ev_tmp, ev_const, get_of, upd_same, upd_ne, Tryd.underlying3, Tryd.underlying83, Tryd.underlying5, Tryd.underlying29, Tryd.underlying32, Tryd.underlying9, Tryd.underlying22]; done) | (apply inK_i64; omega) | (apply inK_u64; omega)) only [op_len, cond_true, cond_false, pick_on, stepC_if, goC_true, goC_false, guard_tt, guard_tf, guard_ft, guard_ff, slot_zero, slot_succ, put_some, runC_cons, runC_nil, stepC_free, dstC_dst, dstC_none, thenC_some, cop_assign, cop_move, cop_conv, cop_bin, cop_un, cop_pick, cop_index, cop_indexAddr, cop_load, cop_store, cop_alloc, cop_box, cop_build, cop_slice, cop_s2a, cop_field, cop_fieldAddr, cop_extract, cop_nilCheck, cop_call, cop_builtin, cop_buildSlice, ev_tmp, ev_const, ev_global, ev_func, put_of, get_of, upd_same, upd_ne, List.toList_toArray, List.map_cons, List.map_nil, some_map, none_map, ti3, ti83, ti5, ti29, ti32]
    with_reducible rfl
  simp only [onN, onB]
  apply W.seq
  refine W.cut (fun fr s => ∃ (h : Nat → Value) (n1 : Nat) (g1 : Nat → Fam) (rd1 : List Nat) (k : ByteArray), fr = Fr.of 35 h ∧ s = St n1 g1 lim rd1 wr ∧ n ≤ n1 ∧ k.data.toList = keyK key.data.toList ∧ h 1 = vb c ∧ h 5 = .string k ∧ (∀ i, i < n → g1 i = g i) ∧ (∀ y, y ∈ rd1 → y ∈ rd ∨ (y = 0 ∧ y < lim))) ?_ ?_
  · skip
    repeat apply W.seq
    apply W.region
    · simp (disch := first | omega | (simp (disch := omega) [ev_tmp, ev_const, get_of, upd_same, upd_ne, Tryd.underlying3, Tryd.underlying83, Tryd.underlying5, Tryd.underlying29, Tryd.underlying32, Tryd.underlying9, Tryd.underlying22]; done) | (apply inK_i64; omega) | (apply inK_u64; omega)) only [op_len, cond_true, cond_false, pick_on, stepC_if, goC_true, goC_false, guard_tt, guard_tf, guard_ft, guard_ff, slot_zero, slot_succ, put_some, runC_cons, runC_nil, stepC_free, dstC_dst, dstC_none, thenC_some, cop_assign, cop_move, cop_conv, cop_bin, cop_un, cop_pick, cop_index, cop_indexAddr, cop_load, cop_store, cop_alloc, cop_box, cop_build, cop_slice, cop_s2a, cop_field, cop_fieldAddr, cop_extract, cop_nilCheck, cop_call, cop_builtin, cop_buildSlice, ev_tmp, ev_const, ev_global, ev_func, put_of, get_of, upd_same, upd_ne, List.toList_toArray, List.map_cons, List.map_nil, some_map, none_map, ti3, ti83, ti5, ti29, ti32, len_str (ti9 ax), oi_gtr]
      with_reducible rfl
    simp only [onN, onB]
    by_cases hbig : (64 : Int) < key.size
    case neg =>
      repeat apply W.seq
      refine W.cond (b := false) ?_ ?_
      · simp (disch := omega) only [ev_tmp, get_of, upd_same, upd_ne, hbig, decide_true, decide_false]
      simp only [cond_true, cond_false]
      apply W.skip
      refine ⟨by first | rfl | trivial, _, n, g, rd, key, rfl, rfl, by omega, ?_, ?_, ?_, fun _ _ => rfl, fun x hx => .inl hx⟩
      · unfold keyK; rw [if_neg (by rw [str_len]; omega)]
      · simp (disch := omega) only [upd_same, upd_ne]
      · simp (disch := omega) only [upd_same, upd_ne]
    repeat apply W.seq
    refine W.cond (b := true) ?_ ?_
    · simp (disch := omega) only [ev_tmp, get_of, upd_same, upd_ne, hbig, decide_true, decide_false]
    simp only [cond_true, cond_false]
    have CB := fun ρ o => conv_bytes (P := Tryd.prog) (Γ := EE ax) (ρ := ρ) (o := o) (n := n) (g := g) (lim := lim) (rd := rd) (wr := wr) (x := key) (ti9 ax) (ti22 ax) (ti5 ax) (by omega)
    generalize hgb : fupd g n ⟨false, [(n * 1024 + 2, byteVs key)], none⟩ = gb at CB
    have b0 : ∀ i, i < n → gb i = g i := fun i hi => by rw [← hgb, fupd_ne _ _ _ _ (by omega)]
    have hba : ByteArg gb (n + 1) (some (mkA n (n * 1024 + 2) 0)) key.size key.data.toList := by
      refine ⟨str_len key, .inr ⟨n, n * 1024 + 2, 0, byteVs key, rfl, by omega, ?_, ?_, ?_⟩⟩
      · rw [← hgb, fupd_same]; exact rowOf_one
      · rw [byteVs_eq, bvs_len, str_len]; omega
      · rw [byteVs_eq, List.drop_zero, List.take_of_length_le (by rw [bvs_len, str_len]; omega)]
    clear hgb
    obtain ⟨n2, g2, rd2, e2, a1, a2, a3⟩ := rsum_run ax hp (some (mkA n (n * 1024 + 2) 0)) key.size key.size key.data.toList (by omega) (n + 1) gb lim rd wr (by omega) hba (by omega) (by rw [b0 _ hG]; exact hk)
    obtain ⟨n3, g3, rd3, e3, b1, b2, b3⟩ := b32_run ax hp (sha key.data.toList) (sha_len _) n2 g2 lim rd2 wr (by omega)
    repeat apply W.seq
    apply W.region
    · simp (disch := first | omega | (simp (disch := omega) [ev_tmp, ev_const, get_of, upd_same, upd_ne, Tryd.underlying3, Tryd.underlying83, Tryd.underlying5, Tryd.underlying29, Tryd.underlying32, Tryd.underlying9, Tryd.underlying22]; done) | (apply inK_i64; omega) | (apply inK_u64; omega)) only [op_len, cond_true, cond_false, pick_on, stepC_if, goC_true, goC_false, guard_tt, guard_tf, guard_ft, guard_ff, slot_zero, slot_succ, put_some, runC_cons, runC_nil, stepC_free, dstC_dst, dstC_none, thenC_some, cop_assign, cop_move, cop_conv, cop_bin, cop_un, cop_pick, cop_index, cop_indexAddr, cop_load, cop_store, cop_alloc, cop_box, cop_build, cop_slice, cop_s2a, cop_field, cop_fieldAddr, cop_extract, cop_nilCheck, cop_call, cop_builtin, cop_buildSlice, ev_tmp, ev_const, ev_global, ev_func, put_of, get_of, upd_same, upd_ne, List.toList_toArray, List.map_cons, List.map_nil, some_map, none_map, ti3, ti83, ti5, ti29, ti32, CB, e2, e3]
      with_reducible rfl
    simp only [onN, onB]
    refine ⟨by first | rfl | trivial, _, n3, g3, rd3, ⟨(sha key.data.toList).toArray⟩, rfl, rfl, by omega, ?_, ?_, ?_, fun i hi => by rw [b2 _ (by omega), a2 _ (by omega)]; exact b0 i hi, fun x hx => ?_⟩
    · unfold keyK; rw [if_pos (by rw [str_len]; omega), mk_list]
    · simp (disch := omega) only [upd_same, upd_ne]
    · simp (disch := omega) only [upd_same, upd_ne]
    · rcases b3 x hx with h | h
      · rcases a3 x h with h | ⟨h | ⟨⟨a, h1, h2⟩, _⟩, hl2⟩
        · exact .inl h
        · exact .inr ⟨h, hl2⟩
        · simp only [Option.some.injEq] at h1
          subst h1
          rw [block_mk] at h2
          omega
      · exact h.1.elim
  rintro fr s ⟨h, n1, g1, rd1, k, rfl, rfl, hn1, hkk, h1, h5, p0, hrd1⟩
  have hks : k.size ≤ 64 := by rw [← str_len, hkk]; exact keyK_len _
  rw [padS_eq _ _ (keyK_len _), ← hkk]
  repeat apply W.seq
  apply W.region
  · simp (disch := first | omega | (simp (disch := omega) [ev_tmp, ev_const, get_of, upd_same, upd_ne, Tryd.underlying3, Tryd.underlying83, Tryd.underlying5, Tryd.underlying29, Tryd.underlying32, Tryd.underlying9, Tryd.underlying22]; done) | (apply inK_i64; omega) | (apply inK_u64; omega)) only [op_len, cond_true, cond_false, pick_on, stepC_if, goC_true, goC_false, guard_tt, guard_tf, guard_ft, guard_ff, slot_zero, slot_succ, put_some, runC_cons, runC_nil, stepC_free, dstC_dst, dstC_none, thenC_some, cop_assign, cop_move, cop_conv, cop_bin, cop_un, cop_pick, cop_index, cop_indexAddr, cop_load, cop_store, cop_alloc, cop_box, cop_build, cop_slice, cop_s2a, cop_field, cop_fieldAddr, cop_extract, cop_nilCheck, cop_call, cop_builtin, cop_buildSlice, ev_tmp, ev_const, ev_global, ev_func, put_of, get_of, upd_same, upd_ne, List.toList_toArray, List.map_cons, List.map_nil, some_map, none_map, ti3, ti83, ti5, ti29, ti32]
    with_reducible rfl
  simp only [onN, onB]
  repeat apply W.seq
  apply W.region
  · simp (disch := first | omega | (simp (disch := omega) [ev_tmp, ev_const, get_of, upd_same, upd_ne, Tryd.underlying3, Tryd.underlying83, Tryd.underlying5, Tryd.underlying29, Tryd.underlying32, Tryd.underlying9, Tryd.underlying22]; done) | (apply inK_i64; omega) | (apply inK_u64; omega)) only [op_len, cond_true, cond_false, pick_on, stepC_if, goC_true, goC_false, guard_tt, guard_tf, guard_ft, guard_ff, slot_zero, slot_succ, put_some, runC_cons, runC_nil, stepC_free, dstC_dst, dstC_none, thenC_some, cop_assign, cop_move, cop_conv, cop_bin, cop_un, cop_pick, cop_index, cop_indexAddr, cop_load, cop_store, cop_alloc, cop_box, cop_build, cop_slice, cop_s2a, cop_field, cop_fieldAddr, cop_extract, cop_nilCheck, cop_call, cop_builtin, cop_buildSlice, ev_tmp, ev_const, ev_global, ev_func, put_of, get_of, upd_same, upd_ne, List.toList_toArray, List.map_cons, List.map_nil, some_map, none_map, ti3, ti83, ti5, ti29, ti32]
    with_reducible rfl
  simp only [onN, onB]
  repeat apply W.seq
  apply W.block
  refine W.loop (fun m fr s => ∃ (i : Nat) (ao : Option Addr) (h : Nat → Value) (n' : Nat) (g' : Nat → Fam), i ≤ 64 ∧ m = 64 - i ∧ fr = Fr.of 35 h ∧ s = St n' g' lim rd1 wr ∧ n ≤ n' ∧ h 1 = vb c ∧ h 5 = .string k ∧ h 6 = .slice ao i i ∧ h 7 = .int .i64 (i : Int) ∧ OwnX n g' n' 1 ao i (bvs (pkL k.data.toList c i)) ∧ (∀ i, i < n → g' i = g i)) ?_ (64 - 0) _ _ ⟨0, none, _, n1, g1, by omega, rfl, rfl, rfl, hn1, ?_, ?_, ?_, ?_, .inl (OwnR.nil _ _ _ _), p0⟩
  case refine_2 => simp (disch := omega) only [upd_same, upd_ne, h1]
  case refine_3 => simp (disch := omega) only [upd_same, upd_ne, h5]
  case refine_4 => simp (disch := omega) only [upd_same, upd_ne]
  case refine_5 => simp (disch := omega) only [upd_same, upd_ne]; rfl
  clear h1 h5 p0
  rintro m fr s ⟨i, ao, h, n', g', hi, rfl, rfl, rfl, hn, h1, h5, h6, h7, hown, p0⟩
  repeat apply W.seq
  apply W.region
  · simp (disch := first | omega | (simp (disch := omega) [ev_tmp, ev_const, get_of, upd_same, upd_ne, h7, Tryd.underlying3, Tryd.underlying83, Tryd.underlying5, Tryd.underlying29, Tryd.underlying32, Tryd.underlying9, Tryd.underlying22]; done) | (apply inK_i64; omega) | (apply inK_u64; omega)) only [op_len, cond_true, cond_false, pick_on, stepC_if, goC_true, goC_false, guard_tt, guard_tf, guard_ft, guard_ff, slot_zero, slot_succ, put_some, runC_cons, runC_nil, stepC_free, dstC_dst, dstC_none, thenC_some, cop_assign, cop_move, cop_conv, cop_bin, cop_un, cop_pick, cop_index, cop_indexAddr, cop_load, cop_store, cop_alloc, cop_box, cop_build, cop_slice, cop_s2a, cop_field, cop_fieldAddr, cop_extract, cop_nilCheck, cop_call, cop_builtin, cop_buildSlice, ev_tmp, ev_const, ev_global, ev_func, put_of, get_of, upd_same, upd_ne, List.toList_toArray, List.map_cons, List.map_nil, some_map, none_map, ti3, ti83, ti5, ti29, ti32, oi_lss, h7]
    with_reducible rfl
  simp only [onN, onB]
  by_cases hi64 : (i : Int) < 64
  case neg =>
    repeat apply W.seq
    refine W.cond (b := false) ?_ ?_
    · simp (disch := omega) only [ev_tmp, get_of, upd_same, upd_ne, hi64, decide_true, decide_false]
    simp only [cond_true, cond_false]
    apply W.exit
    simp only [onN, onB, Nat.beq_refl, cond_true, cond_false, bexit]
    have hi' : i = 64 := by omega
    subst hi'
    repeat apply W.seq
    apply W.region
    · simp (disch := first | omega | (simp (disch := omega) [ev_tmp, ev_const, get_of, upd_same, upd_ne, h6, Tryd.underlying3, Tryd.underlying83, Tryd.underlying5, Tryd.underlying29, Tryd.underlying32, Tryd.underlying9, Tryd.underlying22]; done) | (apply inK_i64; omega) | (apply inK_u64; omega)) only [op_len, cond_true, cond_false, pick_on, stepC_if, goC_true, goC_false, guard_tt, guard_tf, guard_ft, guard_ff, slot_zero, slot_succ, put_some, runC_cons, runC_nil, stepC_free, dstC_dst, dstC_none, thenC_some, cop_assign, cop_move, cop_conv, cop_bin, cop_un, cop_pick, cop_index, cop_indexAddr, cop_load, cop_store, cop_alloc, cop_box, cop_build, cop_slice, cop_s2a, cop_field, cop_fieldAddr, cop_extract, cop_nilCheck, cop_call, cop_builtin, cop_buildSlice, ev_tmp, ev_const, ev_global, ev_func, put_of, get_of, upd_same, upd_ne, List.toList_toArray, List.map_cons, List.map_nil, some_map, none_map, ti3, ti83, ti5, ti29, ti32, h6]
      with_reducible rfl
    simp only [onN, onB]
    apply W.ret
    refine ⟨.inr rfl, [.slice ao 64 64], St n' g' lim rd1 wr, ?_, ao, n', g', rd1, rfl, rfl, hown, hn, p0, hrd1⟩
    simp (disch := omega) only [resC, Tryd.results55, get_of, upd_same]
    all_goals rfl
  repeat apply W.seq
  refine W.cond (b := true) ?_ ?_
  · simp (disch := omega) only [ev_tmp, get_of, upd_same, upd_ne, hi64, decide_true, decide_false]
  simp only [cond_true, cond_false]
  apply W.skip
  simp only [onN, onB]
  have hil : i < 64 := by omega
  have c0 : Value.int .u8 0 = vb 0 := rfl
  repeat apply W.seq
  apply W.block
  repeat apply W.seq
  apply W.region
  · simp (disch := first | omega | (simp (disch := omega) [ev_tmp, ev_const, get_of, upd_same, upd_ne, c0, Tryd.underlying3, Tryd.underlying83, Tryd.underlying5, Tryd.underlying29, Tryd.underlying32, Tryd.underlying9, Tryd.underlying22]; done) | (apply inK_i64; omega) | (apply inK_u64; omega)) only [op_len, cond_true, cond_false, pick_on, stepC_if, goC_true, goC_false, guard_tt, guard_tf, guard_ft, guard_ff, slot_zero, slot_succ, put_some, runC_cons, runC_nil, stepC_free, dstC_dst, dstC_none, thenC_some, cop_assign, cop_move, cop_conv, cop_bin, cop_un, cop_pick, cop_index, cop_indexAddr, cop_load, cop_store, cop_alloc, cop_box, cop_build, cop_slice, cop_s2a, cop_field, cop_fieldAddr, cop_extract, cop_nilCheck, cop_call, cop_builtin, cop_buildSlice, ev_tmp, ev_const, ev_global, ev_func, put_of, get_of, upd_same, upd_ne, List.toList_toArray, List.map_cons, List.map_nil, some_map, none_map, ti3, ti83, ti5, ti29, ti32, c0]
    with_reducible rfl
  simp only [onN, onB]
  apply W.seq
  refine W.cut (fun fr s => ∃ h, fr = Fr.of 35 h ∧ s = St n' g' lim rd1 wr ∧ h 1 = vb c ∧ h 5 = .string k ∧ h 6 = .slice ao i i ∧ h 7 = .int .i64 (i : Int) ∧ h 8 = vb (k.data.toList.getD i 0)) ?_ ?_
  · skip
    repeat apply W.seq
    apply W.region
    · simp (disch := first | omega | (simp (disch := omega) [ev_tmp, ev_const, get_of, upd_same, upd_ne, h5, h7, Tryd.underlying3, Tryd.underlying83, Tryd.underlying5, Tryd.underlying29, Tryd.underlying32, Tryd.underlying9, Tryd.underlying22]; done) | (apply inK_i64; omega) | (apply inK_u64; omega)) only [op_len, cond_true, cond_false, pick_on, stepC_if, goC_true, goC_false, guard_tt, guard_tf, guard_ft, guard_ff, slot_zero, slot_succ, put_some, runC_cons, runC_nil, stepC_free, dstC_dst, dstC_none, thenC_some, cop_assign, cop_move, cop_conv, cop_bin, cop_un, cop_pick, cop_index, cop_indexAddr, cop_load, cop_store, cop_alloc, cop_box, cop_build, cop_slice, cop_s2a, cop_field, cop_fieldAddr, cop_extract, cop_nilCheck, cop_call, cop_builtin, cop_buildSlice, ev_tmp, ev_const, ev_global, ev_func, put_of, get_of, upd_same, upd_ne, List.toList_toArray, List.map_cons, List.map_nil, some_map, none_map, ti3, ti83, ti5, ti29, ti32, h5, h7, len_str (ti9 ax), oi_lss]
      with_reducible rfl
    simp only [onN, onB]
    by_cases hik : (i : Int) < (k.size : Int)
    case neg =>
      repeat apply W.seq
      refine W.cond (b := false) ?_ ?_
      · simp (disch := omega) only [ev_tmp, get_of, upd_same, upd_ne, hik, decide_true, decide_false]
      simp only [cond_true, cond_false]
      apply W.skip
      refine ⟨by first | rfl | trivial, _, by first | rfl | trivial, by first | rfl | trivial, ?_, ?_, ?_, ?_, ?_⟩
      · simp (disch := omega) only [upd_same, upd_ne, h1]
      · simp (disch := omega) only [upd_same, upd_ne, h5]
      · simp (disch := omega) only [upd_same, upd_ne, h6]
      · simp (disch := omega) only [upd_same, upd_ne, h7]
      · have : k.data.toList.getD i 0 = 0 := by rw [List.getD_eq_getElem?_getD, List.getElem?_eq_none (by rw [str_len]; omega)]; rfl
        rw [this]
        simp (disch := omega) only [upd_same, upd_ne]
    repeat apply W.seq
    refine W.cond (b := true) ?_ ?_
    · simp (disch := omega) only [ev_tmp, get_of, upd_same, upd_ne, hik, decide_true, decide_false]
    simp only [cond_true, cond_false]
    repeat apply W.seq
    apply W.region
    · simp (disch := first | omega | (simp (disch := omega) [ev_tmp, ev_const, get_of, upd_same, upd_ne, h5, h7, Tryd.underlying3, Tryd.underlying83, Tryd.underlying5, Tryd.underlying29, Tryd.underlying32, Tryd.underlying9, Tryd.underlying22]; done) | (apply inK_i64; omega) | (apply inK_u64; omega)) only [op_len, cond_true, cond_false, pick_on, stepC_if, goC_true, goC_false, guard_tt, guard_tf, guard_ft, guard_ff, slot_zero, slot_succ, put_some, runC_cons, runC_nil, stepC_free, dstC_dst, dstC_none, thenC_some, cop_assign, cop_move, cop_conv, cop_bin, cop_un, cop_pick, cop_index, cop_indexAddr, cop_load, cop_store, cop_alloc, cop_box, cop_build, cop_slice, cop_s2a, cop_field, cop_fieldAddr, cop_extract, cop_nilCheck, cop_call, cop_builtin, cop_buildSlice, ev_tmp, ev_const, ev_global, ev_func, put_of, get_of, upd_same, upd_ne, List.toList_toArray, List.map_cons, List.map_nil, some_map, none_map, ti3, ti83, ti5, ti29, ti32, h5, h7, natOf_nat, idx_str (ti9 ax) (show i < k.size by omega)]
      with_reducible rfl
    simp only [onN, onB]
    refine ⟨by first | rfl | trivial, _, by first | rfl | trivial, by first | rfl | trivial, ?_, ?_, ?_, ?_, ?_⟩
    · simp (disch := omega) only [upd_same, upd_ne, h1]
    · simp (disch := omega) only [upd_same, upd_ne, h5]
    · simp (disch := omega) only [upd_same, upd_ne, h6]
    · simp (disch := omega) only [upd_same, upd_ne, h7]
    · simp (disch := omega) only [upd_same, upd_ne]
  clear h1 h5 h6 h7
  rintro fr s ⟨h, rfl, rfl, h1, h5, h6, h7, h8⟩
  obtain ⟨ao', m2, G2, e1, o1, d1, d2, d3⟩ := OwnX.push (lim := lim) (bytes := 1) (rd := rd1) (wr := wr) (v := vb (k.data.toList.getD i 0 ^^^ c)) hown (by omega) hl rfl (by omega)
  repeat apply W.seq
  apply W.region
  · simp (disch := first | omega | (simp (disch := omega) [ev_tmp, ev_const, get_of, upd_same, upd_ne, h1, h6, h8, vb_cells, Tryd.underlying3, Tryd.underlying83, Tryd.underlying5, Tryd.underlying29, Tryd.underlying32, Tryd.underlying9, Tryd.underlying22]; done) | (apply inK_i64; omega) | (apply inK_u64; omega)) only [op_len, cond_true, cond_false, pick_on, stepC_if, goC_true, goC_false, guard_tt, guard_tf, guard_ft, guard_ff, slot_zero, slot_succ, put_some, runC_cons, runC_nil, stepC_free, dstC_dst, dstC_none, thenC_some, cop_assign, cop_move, cop_conv, cop_bin, cop_un, cop_pick, cop_index, cop_indexAddr, cop_load, cop_store, cop_alloc, cop_box, cop_build, cop_slice, cop_s2a, cop_field, cop_fieldAddr, cop_extract, cop_nilCheck, cop_call, cop_builtin, cop_buildSlice, ev_tmp, ev_const, ev_global, ev_func, put_of, get_of, upd_same, upd_ne, List.toList_toArray, List.map_cons, List.map_nil, some_map, none_map, ti3, ti83, ti5, ti29, ti32, h1, h6, h8, bb_xor, op_append (src_u8 ax), build_one (ti22 ax) (ti5 ax) rfl rfl, app_sl (el_u8 ax), e1]
    with_reducible rfl
  simp only [onN, onB]
  repeat apply W.seq
  apply W.region
  · simp (disch := first | omega | (simp (disch := omega) [ev_tmp, ev_const, get_of, upd_same, upd_ne, h7, Tryd.underlying3, Tryd.underlying83, Tryd.underlying5, Tryd.underlying29, Tryd.underlying32, Tryd.underlying9, Tryd.underlying22]; done) | (apply inK_i64; omega) | (apply inK_u64; omega)) only [op_len, cond_true, cond_false, pick_on, stepC_if, goC_true, goC_false, guard_tt, guard_tf, guard_ft, guard_ff, slot_zero, slot_succ, put_some, runC_cons, runC_nil, stepC_free, dstC_dst, dstC_none, thenC_some, cop_assign, cop_move, cop_conv, cop_bin, cop_un, cop_pick, cop_index, cop_indexAddr, cop_load, cop_store, cop_alloc, cop_box, cop_build, cop_slice, cop_s2a, cop_field, cop_fieldAddr, cop_extract, cop_nilCheck, cop_call, cop_builtin, cop_buildSlice, ev_tmp, ev_const, ev_global, ev_func, put_of, get_of, upd_same, upd_ne, List.toList_toArray, List.map_cons, List.map_nil, some_map, none_map, ti3, ti83, ti5, ti29, ti32, oi_add, h7]
    with_reducible rfl
  simp only [onN, onB]
  refine ⟨64 - (i + 1), by omega, i + 1, ao', _, m2, G2, by omega, rfl, rfl, rfl, by omega, ?_, ?_, ?_, ?_, ?_, fun i hi => by rw [d3 _ (by omega)]; exact p0 i hi⟩
  · simp (disch := omega) only [upd_same, upd_ne, h1]
  · simp (disch := omega) only [upd_same, upd_ne, h5]
  · simp (disch := omega) only [upd_same, upd_ne]
  · simp (disch := omega) only [upd_same, upd_ne]; rfl
  · rw [pkL, bvs_app]; exact o1
set_option maxHeartbeats 4000000 in
theorem rmac_run (ax : Axs) (hp : Plain ax) (key text : ByteArray) (hkey : key.size < 1000000) (htext : text.size < 1000000) (n : Nat) (g : Nat → Fam) (lim : Nat) (rd wr : List Nat) (hl : lim ≤ n) (hG : 0 < n) (hk : rowOf (g 0).rows (0 * 1024) = some (wvs KW)) :
    Ret Tryd.prog (EE ax) 25 [.string key, .string text] n g lim rd wr (fun y => y = 0) (.string ⟨(macB key.data.toList text.data.toList).toArray⟩) := by
  have hax : ax 25 = none := hp _ (by decide)
  refine Ret.of (fn := Tryd.f25) 22 hax (fn25 ax) rfl Tryd.ntmps25 (by simp) ?_
  simp (disch := omega) only [ofArgs_cons, ofArgs_nil, Nat.reduceAdd]
  repeat apply W.seq
  apply W.region
  · simp (disch := first | omega | (simp (disch := omega) [ev_tmp, ev_const, get_of, upd_same, upd_ne, Tryd.underlying3, Tryd.underlying83, Tryd.underlying5, Tryd.underlying29, Tryd.underlying32, Tryd.underlying9, Tryd.underlying22]; done) | (apply inK_i64; omega) | (apply inK_u64; omega)) only [op_len, cond_true, cond_false, pick_on, stepC_if, goC_true, goC_false, guard_tt, guard_tf, guard_ft, guard_ff, slot_zero, slot_succ, put_some, runC_cons, runC_nil, stepC_free, dstC_dst, dstC_none, thenC_some, cop_assign, cop_move, cop_conv, cop_bin, cop_un, cop_pick, cop_index, cop_indexAddr, cop_load, cop_store, cop_alloc, cop_box, cop_build, cop_slice, cop_s2a, cop_field, cop_fieldAddr, cop_extract, cop_nilCheck, cop_call, cop_builtin, cop_buildSlice, ev_tmp, ev_const, ev_global, ev_func, put_of, get_of, upd_same, upd_ne, List.toList_toArray, List.map_cons, List.map_nil, some_map, none_map, ti3, ti83, ti5, ti29, ti32]
    with_reducible rfl
  simp only [onN, onB]
  have c54 : Value.int .u8 54 = vb 54 := rfl
  have c92 : Value.int .u8 92 = vb 92 := rfl
  obtain ⟨a1, n1, g1, rd1, e1, o1, l1, k1, r1⟩ := padk_run ax hp 54 key hkey n g lim rd wr hl hG hk
  repeat apply W.seq
  apply W.region
  · simp (disch := first | omega | (simp (disch := omega) [ev_tmp, ev_const, get_of, upd_same, upd_ne, c54, Tryd.underlying3, Tryd.underlying83, Tryd.underlying5, Tryd.underlying29, Tryd.underlying32, Tryd.underlying9, Tryd.underlying22]; done) | (apply inK_i64; omega) | (apply inK_u64; omega)) only [op_len, cond_true, cond_false, pick_on, stepC_if, goC_true, goC_false, guard_tt, guard_tf, guard_ft, guard_ff, slot_zero, slot_succ, put_some, runC_cons, runC_nil, stepC_free, dstC_dst, dstC_none, thenC_some, cop_assign, cop_move, cop_conv, cop_bin, cop_un, cop_pick, cop_index, cop_indexAddr, cop_load, cop_store, cop_alloc, cop_box, cop_build, cop_slice, cop_s2a, cop_field, cop_fieldAddr, cop_extract, cop_nilCheck, cop_call, cop_builtin, cop_buildSlice, ev_tmp, ev_const, ev_global, ev_func, put_of, get_of, upd_same, upd_ne, List.toList_toArray, List.map_cons, List.map_nil, some_map, none_map, ti3, ti83, ti5, ti29, ti32, c54, e1]
    with_reducible rfl
  simp only [onN, onB]
  have ht : CS.firstCells (St n1 g1 lim rd1 wr) 1 text.size (.string text) = some (bvs text.data.toList, St n1 g1 lim rd1 wr) := by
    rw [first_str (Nat.le_refl _), ext_all]; rfl
  obtain ⟨a2, n2, g2, e2, o2, l2, l2', k2⟩ := o1.append (bytes := 1) (k := text.size) (y := .string text) (by omega) hl rfl ht (by rw [bvs_len, str_len, Nat.mul_one]) (bvs_one _) (by omega) (by omega)
  rw [← bvs_app] at o2
  repeat apply W.seq
  apply W.region
  · simp (disch := first | omega | (simp (disch := omega) [ev_tmp, ev_const, get_of, upd_same, upd_ne, Tryd.underlying3, Tryd.underlying83, Tryd.underlying5, Tryd.underlying29, Tryd.underlying32, Tryd.underlying9, Tryd.underlying22]; done) | (apply inK_i64; omega) | (apply inK_u64; omega)) only [op_len, cond_true, cond_false, pick_on, stepC_if, goC_true, goC_false, guard_tt, guard_tf, guard_ft, guard_ff, slot_zero, slot_succ, put_some, runC_cons, runC_nil, stepC_free, dstC_dst, dstC_none, thenC_some, cop_assign, cop_move, cop_conv, cop_bin, cop_un, cop_pick, cop_index, cop_indexAddr, cop_load, cop_store, cop_alloc, cop_box, cop_build, cop_slice, cop_s2a, cop_field, cop_fieldAddr, cop_extract, cop_nilCheck, cop_call, cop_builtin, cop_buildSlice, ev_tmp, ev_const, ev_global, ev_func, put_of, get_of, upd_same, upd_ne, List.toList_toArray, List.map_cons, List.map_nil, some_map, none_map, ti3, ti83, ti5, ti29, ti32, op_append (src_str ax), app_sl (el_u8 ax), e2]
    with_reducible rfl
  simp only [onN, onB]
  obtain ⟨a3, n3, g3, rd3, e3, o3, l3, k3, r3⟩ := padk_run ax hp 92 key hkey n2 g2 lim rd1 wr (by omega) (by omega) (by rw [k2 _ (by omega), k1 _ (by omega)]; exact hk)
  repeat apply W.seq
  apply W.region
  · simp (disch := first | omega | (simp (disch := omega) [ev_tmp, ev_const, get_of, upd_same, upd_ne, c92, Tryd.underlying3, Tryd.underlying83, Tryd.underlying5, Tryd.underlying29, Tryd.underlying32, Tryd.underlying9, Tryd.underlying22]; done) | (apply inK_i64; omega) | (apply inK_u64; omega)) only [op_len, cond_true, cond_false, pick_on, stepC_if, goC_true, goC_false, guard_tt, guard_tf, guard_ft, guard_ff, slot_zero, slot_succ, put_some, runC_cons, runC_nil, stepC_free, dstC_dst, dstC_none, thenC_some, cop_assign, cop_move, cop_conv, cop_bin, cop_un, cop_pick, cop_index, cop_indexAddr, cop_load, cop_store, cop_alloc, cop_box, cop_build, cop_slice, cop_s2a, cop_field, cop_fieldAddr, cop_extract, cop_nilCheck, cop_call, cop_builtin, cop_buildSlice, ev_tmp, ev_const, ev_global, ev_func, put_of, get_of, upd_same, upd_ne, List.toList_toArray, List.map_cons, List.map_nil, some_map, none_map, ti3, ti83, ti5, ti29, ti32, c92, e3]
    with_reducible rfl
  simp only [onN, onB]
  have o2' := o2.keep (n' := n3) (g' := g3) (fun i _ hi => k3 i hi) l3
  have z3 : rowOf (g3 0).rows (0 * 1024) = some (wvs KW) := by rw [k3 _ (by omega), k2 _ (by omega), k1 _ (by omega)]; exact hk
  obtain ⟨n4, g4, rd4, e4, l4, k4, r4⟩ := rsum_run ax hp a2 (64 + text.size) (64 + text.size) _ (by omega) n3 g3 lim rd3 wr (by omega) o2'.barg (by omega) z3
  obtain ⟨n5, g5, rd5, e5, l5, k5, r5⟩ := b32_run ax hp _ (sha_len _) n4 g4 lim rd4 wr (by omega)
  generalize hS : sha (padS (keyK key.data.toList) 54 ++ text.data.toList) = S1 at *
  have hSl : S1.length = 32 := by rw [← hS]; exact sha_len _
  have o3' := o3.keep (n' := n5) (g' := g5) (fun i _ hi => by rw [k5 _ (by omega), k4 _ (by omega)]) (by omega)
  have ht2 : CS.firstCells (St n5 g5 lim rd5 wr) 1 32 (.string ⟨S1.toArray⟩) = some (bvs S1, St n5 g5 lim rd5 wr) := by
    have hz : (ByteArray.mk S1.toArray).size = 32 := by rw [mk_size, hSl]
    have := first_str (s := St n5 g5 lim rd5 wr) (b := ⟨S1.toArray⟩) (k := 32) (by rw [hz]; exact Nat.le_refl _)
    rw [this]
    have e : (ByteArray.mk S1.toArray).extract 0 32 = ⟨S1.toArray⟩ := by
      have := ext_all ⟨S1.toArray⟩
      rw [hz] at this
      exact this
    rw [e, byteVs_eq, mk_list]
  obtain ⟨a6, n6, g6, e6, o6, l6, l6', k6⟩ := o3'.append (bytes := 1) (k := 32) (y := .string ⟨S1.toArray⟩) (by omega) (by omega) (by show some _ = some _; rw [mk_size, hSl]) ht2 (by rw [bvs_len, hSl]) (bvs_one _) (by omega) (by omega)
  rw [← bvs_app] at o6
  repeat apply W.seq
  apply W.region
  · simp (disch := first | omega | (simp (disch := omega) [ev_tmp, ev_const, get_of, upd_same, upd_ne, Tryd.underlying3, Tryd.underlying83, Tryd.underlying5, Tryd.underlying29, Tryd.underlying32, Tryd.underlying9, Tryd.underlying22]; done) | (apply inK_i64; omega) | (apply inK_u64; omega)) only [op_len, cond_true, cond_false, pick_on, stepC_if, goC_true, goC_false, guard_tt, guard_tf, guard_ft, guard_ff, slot_zero, slot_succ, put_some, runC_cons, runC_nil, stepC_free, dstC_dst, dstC_none, thenC_some, cop_assign, cop_move, cop_conv, cop_bin, cop_un, cop_pick, cop_index, cop_indexAddr, cop_load, cop_store, cop_alloc, cop_box, cop_build, cop_slice, cop_s2a, cop_field, cop_fieldAddr, cop_extract, cop_nilCheck, cop_call, cop_builtin, cop_buildSlice, ev_tmp, ev_const, ev_global, ev_func, put_of, get_of, upd_same, upd_ne, List.toList_toArray, List.map_cons, List.map_nil, some_map, none_map, ti3, ti83, ti5, ti29, ti32, e4, e5, op_append (src_str ax), app_sl (el_u8 ax), e6]
    with_reducible rfl
  simp only [onN, onB]
  have z6 : rowOf (g6 0).rows (0 * 1024) = some (wvs KW) := by rw [k6 _ (by omega), k5 _ (by omega), k4 _ (by omega)]; exact z3
  obtain ⟨n7, g7, rd7, e7, l7, k7, r7⟩ := rsum_run ax hp a6 (64 + 32) (64 + 32) _ (by omega) n6 g6 lim rd5 wr (by omega) o6.barg (by omega) z6
  obtain ⟨n8, g8, rd8, e8, l8, k8, r8⟩ := b32_run ax hp _ (sha_len _) n7 g7 lim rd7 wr (by omega)
  have hm : sha (padS (keyK key.data.toList) 92 ++ S1) = macB key.data.toList text.data.toList := by unfold macB; rw [hS]
  rw [hm] at e7 e8
  repeat apply W.seq
  apply W.region
  · simp (disch := first | omega | (simp (disch := omega) [ev_tmp, ev_const, get_of, upd_same, upd_ne, Tryd.underlying3, Tryd.underlying83, Tryd.underlying5, Tryd.underlying29, Tryd.underlying32, Tryd.underlying9, Tryd.underlying22]; done) | (apply inK_i64; omega) | (apply inK_u64; omega)) only [op_len, cond_true, cond_false, pick_on, stepC_if, goC_true, goC_false, guard_tt, guard_tf, guard_ft, guard_ff, slot_zero, slot_succ, put_some, runC_cons, runC_nil, stepC_free, dstC_dst, dstC_none, thenC_some, cop_assign, cop_move, cop_conv, cop_bin, cop_un, cop_pick, cop_index, cop_indexAddr, cop_load, cop_store, cop_alloc, cop_box, cop_build, cop_slice, cop_s2a, cop_field, cop_fieldAddr, cop_extract, cop_nilCheck, cop_call, cop_builtin, cop_buildSlice, ev_tmp, ev_const, ev_global, ev_func, put_of, get_of, upd_same, upd_ne, List.toList_toArray, List.map_cons, List.map_nil, some_map, none_map, ti3, ti83, ti5, ti29, ti32, e7, e8]
    with_reducible rfl
  simp only [onN, onB]
  apply W.ret
  refine ⟨.inr rfl, n8, g8, rd8, ?_, by omega, fun i hi => by rw [k8 _ (by omega), k7 _ (by omega), k6 _ (by omega), k5 _ (by omega), k4 _ (by omega), k3 _ (by omega), k2 _ (by omega), k1 _ (by omega)], ?_⟩
  · simp (disch := omega) only [resC, Tryd.results25, get_of, upd_same]
    all_goals rfl
  · intro y hy
    rcases r8 y hy with hy | hy
    · rcases r7 y hy with hy | ⟨hy | ⟨hy, _⟩, hq⟩
      · rcases r5 y hy with hy | hy
        · rcases r4 y hy with hy | ⟨hy | ⟨hy, _⟩, hq⟩
          · rcases r3 y hy with hy | hy
            · exact r1 y hy
            · exact .inr hy
          · exact .inr ⟨hy, hq⟩
          · have := o2.blk y hy; omega
        · exact hy.1.elim
      · exact .inr ⟨hy, hq⟩
      · have := o6.blk y hy; omega
    · exact hy.1.elim
end Go.Proofs.YtcmfoipnoejmlaaDoor
