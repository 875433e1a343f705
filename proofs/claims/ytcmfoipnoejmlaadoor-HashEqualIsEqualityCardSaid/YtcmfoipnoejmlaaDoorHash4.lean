/- hash.compress in the plain machine. -/
import Derived.Test.YtcmfoipnoejmlaaDoorHash3
namespace Go.Proofs.YtcmfoipnoejmlaaDoor
open Go Go.RowKit
set_option linter.unusedSimpArgs false
set_option linter.unusedVariables false
def rx (e : List UInt32) (k w : UInt32) : UInt32 := e.getD 3 0 + mix32 (e.getD 0 0) 6 11 25 + ((e.getD 0 0 &&& e.getD 1 0) ^^^ (~~~(e.getD 0 0) &&& e.getD 2 0)) + k + w
def ry (v : List UInt32) : UInt32 := mix32 (v.getD 0 0) 2 13 22 + ((v.getD 0 0 &&& v.getD 1 0) ^^^ (v.getD 0 0 &&& v.getD 2 0) ^^^ (v.getD 1 0 &&& v.getD 2 0))
/-- v and e behind t rounds -/
def rds (s w kt : List UInt32) : Nat → List UInt32 × List UInt32
  | 0 => (s.take 4, s.drop 4)
  | t + 1 => let p := rds s w kt t; let x := rx p.2 (kt.getD t 0) (w.getD t 0)
    ([x + ry p.1, p.1.getD 0 0, p.1.getD 1 0, p.1.getD 2 0], [p.1.getD 3 0 + x, p.2.getD 0 0, p.2.getD 1 0, p.2.getD 2 0])
def fin (s v e : List UInt32) : Nat → List UInt32
  | 0 => s
  | i + 1 => let p := fin s v e i; let q := p.set i (p.getD i 0 + v.getD i 0)
    q.set (i + 4) (q.getD (i + 4) 0 + e.getD i 0)
def comp (kt s : List UInt32) (bs : List UInt8) : List UInt32 := let p := rds s (sched bs 64) kt 64; fin s p.1 p.2 4
theorem rds_len (s w kt : List UInt32) (hs : s.length = 8) : ∀ t, (rds s w kt t).1.length = 4 ∧ (rds s w kt t).2.length = 4
  | 0 => by simp [rds, hs]
  | t + 1 => ⟨rfl, rfl⟩
theorem fin_len (s v e : List UInt32) : ∀ i, (fin s v e i).length = s.length
  | 0 => rfl
  | i + 1 => by rw [fin]; simp [fin_len s v e i]
theorem comp_len (kt s : List UInt32) (bs : List UInt8) : (comp kt s bs).length = s.length := fin_len _ _ _ _
set_option maxHeartbeats 4000000 in
theorem comp_run (ax : Axs) (hp : Plain ax) (hax : ax 53 = none) (kt s : List UInt32) (bs : List UInt8) (fb ub off len cap : Nat) (n : Nat) (g : Nat → Fam) (lim : Nat) (rd wr : List Nat) (hl : lim ≤ n) (hb : BSl g n fb ub off len cap bs) (h64 : len = 64) (hc1 : cap < 1000000000) (hs : s.length = 8) (hk : kt.length = 64)
    (hG : 1 < n) (hgl : rowOf (g 1).rows (1 * 1024) = some (wvs kt)) :
    ∃ n' g' rd', callR Tryd.prog (EE ax) 53 [.agg (wvs s).toArray, .slice (some (mkA fb ub off)) len cap] (St n g lim rd wr) = some (.agg (wvs (comp kt s bs)).toArray, St n' g' lim rd' wr) ∧ n ≤ n' ∧ n' ≤ n + 7 ∧ (∀ i, i < n → g' i = g i) ∧ (∀ x, x ∈ rd' → x ∈ rd ∨ ((x = fb ∨ x = 1) ∧ x < lim)) := by
  have hbl := hb.lt
  suffices hh : ∃ v s2, callR Tryd.prog (EE ax) 53 [.agg (wvs s).toArray, .slice (some (mkA fb ub off)) len cap] (St n g lim rd wr) = some (v, s2) ∧ v = .agg (wvs (comp kt s bs)).toArray ∧ ∃ n' g' rd', s2 = St n' g' lim rd' wr ∧ n ≤ n' ∧ n' ≤ n + 7 ∧ (∀ i, i < n → g' i = g i) ∧ (∀ x, x ∈ rd' → x ∈ rd ∨ ((x = fb ∨ x = 1) ∧ x < lim)) by
    obtain ⟨v, s2, h1, rfl, n', g', rd', rfl, h2⟩ := hh
    exact ⟨n', g', rd', h1, h2⟩
  refine callR_ex (fn := Tryd.f53) 116 hax (fn53 ax) rfl Tryd.ntmps53 (by simp) ?_
  simp (disch := omega) only [ofArgs_cons, ofArgs_nil, Nat.reduceAdd]
  repeat apply W.seq
  apply W.region
  · simp (disch := first | omega | (simp (disch := omega) [ev_tmp, ev_const, get_of, upd_same, upd_ne, Tryd.underlying3, Tryd.underlying83, Tryd.underlying5, Tryd.underlying29, Tryd.underlying22]; done) | (apply inK_i64; omega) | (apply inK_u64; omega)) only [op_len, cond_true, cond_false, pick_on, stepC_if, goC_true, goC_false, guard_tt, guard_tf, guard_ft, guard_ff, slot_zero, slot_succ, put_some, runC_cons, runC_nil, stepC_free, dstC_dst, dstC_none, thenC_some, cop_assign, cop_move, cop_conv, cop_bin, cop_un, cop_pick, cop_index, cop_indexAddr, cop_load, cop_store, cop_alloc, cop_box, cop_build, cop_slice, cop_s2a, cop_field, cop_fieldAddr, cop_extract, cop_nilCheck, cop_call, cop_builtin, cop_buildSlice, ev_tmp, ev_const, ev_global, ev_func, put_of, get_of, upd_same, upd_ne, List.toList_toArray, List.map_cons, List.map_nil, some_map, none_map, ti3, ti83, ti5, ti29, ti22, alloc_st (ti30 ax), box_st, cells_agg]
    with_reducible rfl
  simp only [onN, onB]
  have hb2 : BSl (fupd (fupd g n ⟨false, [(n * 1024 + 0, wvs s)], none⟩) (n + 1) ⟨false, [((n + 1) * 1024 + 0, List.replicate 8 (.int .u32 0))], none⟩) (n + 1 + 1) fb ub off len cap bs := by
    obtain ⟨cs, r1, r2⟩ := hb.row
    exact ⟨by omega, hb.tag, hb.fits, hb.size, cs, by rw [fupd_ne _ _ _ _ (by omega), fupd_ne _ _ _ _ (by omega)]; exact r1, r2⟩
  obtain ⟨n1, g1, rd1, e1, k1, k2, k3, k4⟩ := sched_run ax hp bs fb ub off len cap (n + 1 + 1) _ lim rd wr (by omega) hb2 h64 hc1
  have q1 : g1 n = ⟨false, [(n * 1024 + 0, wvs s)], none⟩ := by rw [k3 n (by omega), fupd_ne _ _ _ _ (by omega), fupd_same]
  have q2 : g1 (n + 1) = ⟨false, [((n + 1) * 1024 + 0, List.replicate 8 (vw 0))], none⟩ := by rw [k3 _ (by omega), fupd_same]; rfl
  have q0 : ∀ i, i < n → g1 i = g i := fun i hi => by rw [k3 _ (by omega), fupd_ne _ _ _ _ (by omega), fupd_ne _ _ _ _ (by omega)]
  clear k3 hb2
  have S1 := st_all (n := n1 + 1) (lim := lim) (rd := rd1) (wr := wr) (ti75 ax) (g := fupd g1 n1 ⟨false, [(n1 * 1024 + 0, List.replicate 64 (.int .u32 0))], none⟩) (f := n1) (u := n1 * 1024 + 0) (vs := wvs (sched bs 64)) (fupd_same _ _ _) (by rw [wvs_len, sched_len]) (by simp) (wvs_one _)
  rw [fupd_fupd, ins_ge (f := n1) _ (by omega)] at S1
  repeat apply W.seq
  apply W.region
  · simp (disch := first | omega | (simp (disch := omega) [ev_tmp, ev_const, get_of, upd_same, upd_ne, Tryd.underlying3, Tryd.underlying83, Tryd.underlying5, Tryd.underlying29, Tryd.underlying22]; done) | (apply inK_i64; omega) | (apply inK_u64; omega)) only [op_len, cond_true, cond_false, pick_on, stepC_if, goC_true, goC_false, guard_tt, guard_tf, guard_ft, guard_ff, slot_zero, slot_succ, put_some, runC_cons, runC_nil, stepC_free, dstC_dst, dstC_none, thenC_some, cop_assign, cop_move, cop_conv, cop_bin, cop_un, cop_pick, cop_index, cop_indexAddr, cop_load, cop_store, cop_alloc, cop_box, cop_build, cop_slice, cop_s2a, cop_field, cop_fieldAddr, cop_extract, cop_nilCheck, cop_call, cop_builtin, cop_buildSlice, ev_tmp, ev_const, ev_global, ev_func, put_of, get_of, upd_same, upd_ne, List.toList_toArray, List.map_cons, List.map_nil, some_map, none_map, ti3, ti83, ti5, ti29, ti22, e1, alloc_st (ti75 ax), cells_agg, S1]
    with_reducible rfl
  simp only [onN, onB]
  have bd1 := bounds_h (len := 8) (cap := 8) (natOf_lit .i64 4) (by omega)
  have bd2 := bounds_l (len := 8) (cap := 8) (natOf_lit .i64 4) (by omega) (by omega)
  generalize hG2 : fupd g1 n1 ⟨false, [(n1 * 1024 + 0, wvs (sched bs 64))], none⟩ = g2
  have p1 : g2 n = ⟨false, [(n * 1024 + 0, wvs s)], none⟩ := by rw [← hG2, fupd_ne _ _ _ _ (by omega)]; exact q1
  have p2 : g2 (n + 1) = ⟨false, [((n + 1) * 1024 + 0, List.replicate 8 (vw 0))], none⟩ := by rw [← hG2, fupd_ne _ _ _ _ (by omega)]; exact q2
  have p3 : g2 n1 = ⟨false, [(n1 * 1024 + 0, wvs (sched bs 64))], none⟩ := by rw [← hG2, fupd_same]
  have p0 : ∀ i, i < n → g2 i = g i := fun i hi => by rw [← hG2, fupd_ne _ _ _ _ (by omega)]; exact q0 i hi
  clear hG2 q0 q1 q2 S1
  have D1 := ld_partq (n := n1 + 1) (ti96 ax) rfl (g := g2) (f := n) (u := n * 1024 + 0) (off := 0 + 0 * 1) (cs := wvs s) (by rw [p1]; exact rowOf_one) (by rw [wvs_len]; omega) (by omega)
  have D2 := ld_partq (n := n1 + 1) (ti96 ax) rfl (g := g2) (f := n) (u := n * 1024 + 0) (off := 0 + 4 * 1) (cs := wvs s) (by rw [p1]; exact rowOf_one) (by rw [wvs_len]; omega) (by omega)
  rw [show ((wvs s).drop (0 + 0 * 1)).take 4 = wvs (s.take 4) by rw [wvs_drop, wvs_take]; rfl] at D1
  rw [show ((wvs s).drop (0 + 4 * 1)).take 4 = wvs (s.drop 4) by rw [wvs_drop, wvs_take, List.take_of_length_le (by simp; omega)]] at D2
  have E1 := st_allq (n := n1 + 1 + 1 + 1) (ti96 ax) (g := fupd (fupd g2 (n1 + 1) ⟨false, [((n1 + 1) * 1024 + 0, List.replicate 4 (.int .u32 0))], none⟩) (n1 + 1 + 1) ⟨false, [((n1 + 1 + 1) * 1024 + 0, List.replicate 4 (.int .u32 0))], none⟩) (f := n1 + 1) (u := (n1 + 1) * 1024 + 0) (vs := wvs (s.take 4)) (es := none) (cs := List.replicate 4 (.int .u32 0)) (by rw [fupd_ne _ _ _ _ (by omega), fupd_same]) (by rw [wvs_len]; simp; omega) (by simp) (wvs_one _) (by omega)
  rw [fupd_comm _ _ _ _ _ (show n1 + 1 + 1 ≠ n1 + 1 by omega), fupd_fupd] at E1
  have E2 := st_allq (n := n1 + 1 + 1 + 1) (ti96 ax) (g := fupd (fupd g2 (n1 + 1) ⟨false, [((n1 + 1) * 1024 + 0, wvs (s.take 4))], none⟩) (n1 + 1 + 1) ⟨false, [((n1 + 1 + 1) * 1024 + 0, List.replicate 4 (.int .u32 0))], none⟩) (f := n1 + 1 + 1) (u := (n1 + 1 + 1) * 1024 + 0) (vs := wvs (s.drop 4)) (es := none) (cs := List.replicate 4 (.int .u32 0)) (fupd_same _ _ _) (by rw [wvs_len]; simp; omega) (by simp) (wvs_one _) (by omega)
  rw [fupd_fupd] at E2
  have I0 := fun l => ins_ge (m := lim) (f := n) l (by omega)
  have I1 := fun l => ins_ge (m := lim) (f := n1 + 1) l (by omega)
  have I2 := fun l => ins_ge (m := lim) (f := n1 + 1 + 1) l (by omega)
  repeat apply W.seq
  apply W.draw_ex (ms := [0, 1, 3, 0, 8, 24, 0, 0, 199, 511])
  · kernel_rfl
  · simp (disch := first | omega | (simp (disch := omega) [ev_tmp, ev_const, get_of, upd_same, upd_ne, Tryd.underlying3, Tryd.underlying83, Tryd.underlying5, Tryd.underlying29, Tryd.underlying22]; done) | (apply inK_i64; omega) | (apply inK_u64; omega)) only [op_len, cond_true, cond_false, pick_on, stepC_if, goC_true, goC_false, guard_tt, guard_tf, guard_ft, guard_ff, slot_zero, slot_succ, put_some, runC_cons, runC_nil, stepC_free, dstC_dst, dstC_none, thenC_some, cop_assign, cop_move, cop_conv, cop_bin, cop_un, cop_pick, cop_index, cop_indexAddr, cop_load, cop_store, cop_alloc, cop_box, cop_build, cop_slice, cop_s2a, cop_field, cop_fieldAddr, cop_extract, cop_nilCheck, cop_call, cop_builtin, cop_buildSlice, ev_tmp, ev_const, ev_global, ev_func, put_of, get_of, upd_same, upd_ne, List.toList_toArray, List.map_cons, List.map_nil, some_map, none_map, ti3, ti83, ti5, ti29, ti22, drawC_cons, drawC_nil, inner_st, thenD_some, consLg_some, insAll_nil, insAll_cons, slice_arr1 (ti30 ax) (ti29 ax) (by omega) bd1 (show (n * 1024 + 0) % 1024 = 0 by omega), slice_arr1 (ti30 ax) (ti29 ax) (by omega) bd2 (show (n * 1024 + 0) % 1024 = 0 by omega), s2a_eq (ti96 ax) (show 0 < 4 by omega) (show 4 ≤ 4 - 0 by omega), s2a_eq (ti96 ax) (show 0 < 4 by omega) (show 4 ≤ 8 - 4 by omega), D1, D2, alloc_st (ti96 ax), cells_agg, E1, E2, I0, I1, I2]
    with_reducible rfl
  · simp (disch := first | decide | (apply clash_gen <;> intro f hf <;> simp at hf ⊢ <;> omega)) only [calmAll_cons, calmAll_nil, calmAll_y0, calmOne_nil, calmOne_set, calmOne_ok, List.nil_append, List.cons_append, List.length_cons, List.length_nil, Nat.reduceAdd, nth_zero, nth_succ, Bool.and_self, Bool.and_true, Bool.true_and]
  simp only [onN, onB]
  have hKT : ∀ rd, opLoad (EE ax) (St (n1 + 1 + 1 + 1) (fupd (fupd g2 (n1 + 1) ⟨false, [((n1 + 1) * 1024 + 0, wvs (s.take 4))], none⟩) (n1 + 1 + 1) ⟨false, [((n1 + 1 + 1) * 1024 + 0, wvs (s.drop 4))], none⟩) lim rd wr) 75 (.pointer (some (mkA 1 (1 * 1024) 0))) = some (.agg (wvs kt).toArray, St (n1 + 1 + 1 + 1) (fupd (fupd g2 (n1 + 1) ⟨false, [((n1 + 1) * 1024 + 0, wvs (s.take 4))], none⟩) (n1 + 1 + 1) ⟨false, [((n1 + 1 + 1) * 1024 + 0, wvs (s.drop 4))], none⟩) lim (ins lim rd 1) wr) :=
    fun rd => ld_all (ti75 ax) rfl (by rw [fupd_ne _ _ _ _ (by omega), fupd_ne _ _ _ _ (by omega), p0 _ hG]; exact hgl) (by rw [wvs_len, hk])
  repeat apply W.seq
  apply W.region
  · simp (disch := first | omega | (simp (disch := omega) [ev_tmp, ev_const, get_of, upd_same, upd_ne, Tryd.underlying3, Tryd.underlying83, Tryd.underlying5, Tryd.underlying29, Tryd.underlying22]; done) | (apply inK_i64; omega) | (apply inK_u64; omega)) only [op_len, cond_true, cond_false, pick_on, stepC_if, goC_true, goC_false, guard_tt, guard_tf, guard_ft, guard_ff, slot_zero, slot_succ, put_some, runC_cons, runC_nil, stepC_free, dstC_dst, dstC_none, thenC_some, cop_assign, cop_move, cop_conv, cop_bin, cop_un, cop_pick, cop_index, cop_indexAddr, cop_load, cop_store, cop_alloc, cop_box, cop_build, cop_slice, cop_s2a, cop_field, cop_fieldAddr, cop_extract, cop_nilCheck, cop_call, cop_builtin, cop_buildSlice, ev_tmp, ev_const, ev_global, ev_func, put_of, get_of, upd_same, upd_ne, List.toList_toArray, List.map_cons, List.map_nil, some_map, none_map, ti3, ti83, ti5, ti29, ti22, hKT]
    with_reducible rfl
  simp only [onN, onB]
  repeat apply W.seq
  apply W.block
  refine W.loop (fun m fr s' => ∃ (t : Nat) (h : Nat → Value) (g' : Nat → Fam) (rd' : List Nat), t ≤ 64 ∧ m = 64 - t ∧ fr = Fr.of 116 h ∧ s' = St (n1 + 1 + 1 + 1) g' lim rd' wr ∧ h 2 = .pointer (some (mkA n (n * 1024 + 0) 0)) ∧ h 4 = .pointer (some (mkA (n + 1) ((n + 1) * 1024 + 0) 0)) ∧ h 6 = .pointer (some (mkA (n1 + 1) ((n1 + 1) * 1024 + 0) 0)) ∧ h 7 = .pointer (some (mkA (n1 + 1 + 1) ((n1 + 1 + 1) * 1024 + 0) 0)) ∧ h 5 = .pointer (some (mkA n1 (n1 * 1024 + 0) 0)) ∧ h 21 = .agg (wvs kt).toArray ∧ h 22 = .int .i64 (t : Int) ∧ g' n = ⟨false, [(n * 1024 + 0, wvs s)], none⟩ ∧ g' (n + 1) = ⟨false, [((n + 1) * 1024 + 0, List.replicate 8 (vw 0))], none⟩ ∧ g' n1 = ⟨false, [(n1 * 1024 + 0, wvs (sched bs 64))], none⟩ ∧ g' (n1 + 1) = ⟨false, [((n1 + 1) * 1024 + 0, wvs (rds s (sched bs 64) kt t).1)], none⟩ ∧ g' (n1 + 1 + 1) = ⟨false, [((n1 + 1 + 1) * 1024 + 0, wvs (rds s (sched bs 64) kt t).2)], none⟩ ∧ (∀ i, i < n → g' i = g i) ∧ (∀ x, x ∈ rd' → x ∈ rd ∨ ((x = fb ∨ x = 1) ∧ x < lim))) ?_ (64 - 0) _ _ ⟨0, _, _, _, by omega, rfl, rfl, rfl, ?_, ?_, ?_, ?_, ?_, ?_, ?_, ?_, ?_, ?_, ?_, ?_, ?_, ?_⟩
  case refine_2 => simp (disch := omega) only [upd_same, upd_ne]
  case refine_3 => simp (disch := omega) only [upd_same, upd_ne]
  case refine_4 => simp (disch := omega) only [upd_same, upd_ne]
  case refine_5 => simp (disch := omega) only [upd_same, upd_ne]
  case refine_6 => simp (disch := omega) only [upd_same, upd_ne]
  case refine_7 => simp (disch := omega) only [upd_same, upd_ne]
  case refine_8 => simp (disch := omega) only [upd_same, upd_ne]; rfl
  case refine_9 => rw [fupd_ne _ _ _ _ (by omega), fupd_ne _ _ _ _ (by omega)]; exact p1
  case refine_10 => rw [fupd_ne _ _ _ _ (by omega), fupd_ne _ _ _ _ (by omega)]; exact p2
  case refine_11 => rw [fupd_ne _ _ _ _ (by omega), fupd_ne _ _ _ _ (by omega)]; exact p3
  case refine_12 => rw [fupd_ne _ _ _ _ (by omega), fupd_same]; rfl
  case refine_13 => rw [fupd_same]; rfl
  case refine_14 => intro i hi; rw [fupd_ne _ _ _ _ (by omega), fupd_ne _ _ _ _ (by omega)]; exact p0 i hi
  case refine_15 =>
    intro x hx
    rcases mem_ins hx with hx | ⟨hx, hq⟩
    · exact (k4 x hx).imp id fun k => ⟨.inl k.1, k.2⟩
    · exact .inr ⟨.inr hx, hq⟩
  clear p1 p2 p3 p0 hKT E1 E2 D1 D2
  rintro m fr s' ⟨t, h, g', rd', ht, rfl, rfl, rfl, h2, h4, h6, h7, h5, h21, h22, p1, p2, p3, p4, p5, p0, hrd⟩
  repeat apply W.seq
  apply W.region
  · simp (disch := first | omega | (simp (disch := omega) [ev_tmp, ev_const, get_of, upd_same, upd_ne, h22, Tryd.underlying3, Tryd.underlying83, Tryd.underlying5, Tryd.underlying29, Tryd.underlying22]; done) | (apply inK_i64; omega) | (apply inK_u64; omega)) only [op_len, cond_true, cond_false, pick_on, stepC_if, goC_true, goC_false, guard_tt, guard_tf, guard_ft, guard_ff, slot_zero, slot_succ, put_some, runC_cons, runC_nil, stepC_free, dstC_dst, dstC_none, thenC_some, cop_assign, cop_move, cop_conv, cop_bin, cop_un, cop_pick, cop_index, cop_indexAddr, cop_load, cop_store, cop_alloc, cop_box, cop_build, cop_slice, cop_s2a, cop_field, cop_fieldAddr, cop_extract, cop_nilCheck, cop_call, cop_builtin, cop_buildSlice, ev_tmp, ev_const, ev_global, ev_func, put_of, get_of, upd_same, upd_ne, List.toList_toArray, List.map_cons, List.map_nil, some_map, none_map, ti3, ti83, ti5, ti29, ti22, oi_lss, h22]
    with_reducible rfl
  simp only [onN, onB]
  by_cases hlt : (t : Int) < 64
  case neg =>
    repeat apply W.seq
    refine W.cond (b := false) ?_ ?_
    · simp (disch := omega) only [ev_tmp, get_of, upd_same, upd_ne, hlt, decide_true, decide_false]
    simp only [cond_true, cond_false]
    apply W.exit
    simp only [onN, onB, Nat.beq_refl, cond_true, cond_false, bexit]
    have hte : t = 64 := by omega
    subst hte
    obtain ⟨l1, l2⟩ := rds_len s (sched bs 64) kt hs 64
    have hcomp : comp kt s bs = fin s (rds s (sched bs 64) kt 64).1 (rds s (sched bs 64) kt 64).2 4 := rfl
    generalize (rds s (sched bs 64) kt 64).1 = V at *
    generalize (rds s (sched bs 64) kt 64).2 = E at *
    repeat apply W.seq
    apply W.region
    · simp (disch := first | omega | (simp (disch := omega) [ev_tmp, ev_const, get_of, upd_same, upd_ne, Tryd.underlying3, Tryd.underlying83, Tryd.underlying5, Tryd.underlying29, Tryd.underlying22]; done) | (apply inK_i64; omega) | (apply inK_u64; omega)) only [op_len, cond_true, cond_false, pick_on, stepC_if, goC_true, goC_false, guard_tt, guard_tf, guard_ft, guard_ff, slot_zero, slot_succ, put_some, runC_cons, runC_nil, stepC_free, dstC_dst, dstC_none, thenC_some, cop_assign, cop_move, cop_conv, cop_bin, cop_un, cop_pick, cop_index, cop_indexAddr, cop_load, cop_store, cop_alloc, cop_box, cop_build, cop_slice, cop_s2a, cop_field, cop_fieldAddr, cop_extract, cop_nilCheck, cop_call, cop_builtin, cop_buildSlice, ev_tmp, ev_const, ev_global, ev_func, put_of, get_of, upd_same, upd_ne, List.toList_toArray, List.map_cons, List.map_nil, some_map, none_map, ti3, ti83, ti5, ti29, ti22]
      with_reducible rfl
    simp only [onN, onB]
    repeat apply W.seq
    apply W.block
    refine W.loop (fun m fr s' => ∃ (t : Nat) (h : Nat → Value) (g' : Nat → Fam) (rd' : List Nat), t ≤ 4 ∧ m = 4 - t ∧ fr = Fr.of 116 h ∧ s' = St (n1 + 1 + 1 + 1) g' lim rd' wr ∧ h 2 = .pointer (some (mkA n (n * 1024 + 0) 0)) ∧ h 4 = .pointer (some (mkA (n + 1) ((n + 1) * 1024 + 0) 0)) ∧ h 6 = .pointer (some (mkA (n1 + 1) ((n1 + 1) * 1024 + 0) 0)) ∧ h 7 = .pointer (some (mkA (n1 + 1 + 1) ((n1 + 1 + 1) * 1024 + 0) 0)) ∧ h 94 = .int .i64 (t : Int) ∧ g' n = ⟨false, [(n * 1024 + 0, wvs (fin s V E t))], none⟩ ∧ g' (n + 1) = ⟨false, [((n + 1) * 1024 + 0, List.replicate 8 (vw 0))], none⟩ ∧ g' (n1 + 1) = ⟨false, [((n1 + 1) * 1024 + 0, wvs V)], none⟩ ∧ g' (n1 + 1 + 1) = ⟨false, [((n1 + 1 + 1) * 1024 + 0, wvs E)], none⟩ ∧ (∀ i, i < n → g' i = g i) ∧ (∀ x, x ∈ rd' → x ∈ rd ∨ ((x = fb ∨ x = 1) ∧ x < lim))) ?_ (4 - 0) _ _ ⟨0, _, _, _, by omega, rfl, rfl, rfl, ?_, ?_, ?_, ?_, ?_, p1, p2, p4, p5, p0, hrd⟩
    case refine_2 => simp (disch := omega) only [upd_same, upd_ne, h2]
    case refine_3 => simp (disch := omega) only [upd_same, upd_ne, h4]
    case refine_4 => simp (disch := omega) only [upd_same, upd_ne, h6]
    case refine_5 => simp (disch := omega) only [upd_same, upd_ne, h7]
    case refine_6 => simp (disch := omega) only [upd_same, upd_ne]; rfl
    clear h2 h4 h6 h7 h5 h21 h22 p1 p2 p3 p4 p5 p0 hrd
    rintro m fr s' ⟨t, h, g', rd', ht, rfl, rfl, rfl, h2, h4, h6, h7, h94, p1, p2, p4, p5, p0, hrd⟩
    have hfl := fin_len s V E t
    repeat apply W.seq
    apply W.region
    · simp (disch := first | omega | (simp (disch := omega) [ev_tmp, ev_const, get_of, upd_same, upd_ne, h94, Tryd.underlying3, Tryd.underlying83, Tryd.underlying5, Tryd.underlying29, Tryd.underlying22]; done) | (apply inK_i64; omega) | (apply inK_u64; omega)) only [op_len, cond_true, cond_false, pick_on, stepC_if, goC_true, goC_false, guard_tt, guard_tf, guard_ft, guard_ff, slot_zero, slot_succ, put_some, runC_cons, runC_nil, stepC_free, dstC_dst, dstC_none, thenC_some, cop_assign, cop_move, cop_conv, cop_bin, cop_un, cop_pick, cop_index, cop_indexAddr, cop_load, cop_store, cop_alloc, cop_box, cop_build, cop_slice, cop_s2a, cop_field, cop_fieldAddr, cop_extract, cop_nilCheck, cop_call, cop_builtin, cop_buildSlice, ev_tmp, ev_const, ev_global, ev_func, put_of, get_of, upd_same, upd_ne, List.toList_toArray, List.map_cons, List.map_nil, some_map, none_map, ti3, ti83, ti5, ti29, ti22, oi_lss, h94]
      with_reducible rfl
    simp only [onN, onB]
    by_cases hl4 : (t : Int) < 4
    case neg =>
      repeat apply W.seq
      refine W.cond (b := false) ?_ ?_
      · simp (disch := omega) only [ev_tmp, get_of, upd_same, upd_ne, hl4, decide_true, decide_false]
      simp only [cond_true, cond_false]
      apply W.exit
      simp only [onN, onB, Nat.beq_refl, cond_true, cond_false, bexit]
      have hte : t = 4 := by omega
      subst hte
      have L1 := ld_all (n := n1 + 1 + 1 + 1) (lim := lim) (rd := rd') (wr := wr) (ti30 ax) rfl (g := g') (f := n) (u := n * 1024 + 0) (cs := wvs (fin s V E 4)) (by rw [p1]; exact rowOf_one) (by rw [wvs_len, hfl, hs])
      rw [I0] at L1
      have S1 := st_all (n := n1 + 1 + 1 + 1) (lim := lim) (rd := rd') (wr := wr) (ti30 ax) (f := n + 1) (u := (n + 1) * 1024 + 0) (vs := wvs (fin s V E 4)) p2 (by rw [wvs_len, hfl, hs]) (by simp) (wvs_one _)
      rw [ins_ge (f := n + 1) _ (by omega)] at S1
      repeat apply W.seq
      apply W.region
      · simp (disch := first | omega | (simp (disch := omega) [ev_tmp, ev_const, get_of, upd_same, upd_ne, h2, h4, Tryd.underlying3, Tryd.underlying83, Tryd.underlying5, Tryd.underlying29, Tryd.underlying22]; done) | (apply inK_i64; omega) | (apply inK_u64; omega)) only [op_len, cond_true, cond_false, pick_on, stepC_if, goC_true, goC_false, guard_tt, guard_tf, guard_ft, guard_ff, slot_zero, slot_succ, put_some, runC_cons, runC_nil, stepC_free, dstC_dst, dstC_none, thenC_some, cop_assign, cop_move, cop_conv, cop_bin, cop_un, cop_pick, cop_index, cop_indexAddr, cop_load, cop_store, cop_alloc, cop_box, cop_build, cop_slice, cop_s2a, cop_field, cop_fieldAddr, cop_extract, cop_nilCheck, cop_call, cop_builtin, cop_buildSlice, ev_tmp, ev_const, ev_global, ev_func, put_of, get_of, upd_same, upd_ne, List.toList_toArray, List.map_cons, List.map_nil, some_map, none_map, ti3, ti83, ti5, ti29, ti22, h2, h4, L1, cells_agg, S1]
        with_reducible rfl
      simp only [onN, onB]
      apply W.ret
      refine ⟨.inr rfl, [.agg (wvs (comp kt s bs)).toArray], St (n1 + 1 + 1 + 1) (fupd g' (n + 1) ⟨false, [((n + 1) * 1024 + 0, wvs (comp kt s bs))], none⟩) lim rd' wr, ?_, rfl, n1 + 1 + 1 + 1, _, rd', rfl, by omega, by omega, fun i hi => by rw [fupd_ne _ _ _ _ (by omega)]; exact p0 i hi, hrd⟩
      have L2 := ld_all (n := n1 + 1 + 1 + 1) (lim := lim) (rd := rd') (wr := wr) (ti30 ax) rfl (g := fupd g' (n + 1) ⟨false, [((n + 1) * 1024 + 0, wvs (fin s V E 4))], none⟩) (f := n + 1) (u := (n + 1) * 1024 + 0) (cs := wvs (fin s V E 4)) (by rw [fupd_same]; exact rowOf_one) (by rw [wvs_len, hfl, hs])
      rw [ins_ge (f := n + 1) _ (by omega)] at L2
      rw [hcomp]
      simp (disch := first | omega | (simp (disch := omega) only [get_of, upd_same, upd_ne, h4]; done)) only [resC_cell (ad := mkA (n + 1) ((n + 1) * 1024 + 0) 0), resC_nil, Tryd.results53, L2, resThen_some, resAdd_some]
    have ht4 : t < 4 := by omega
    repeat apply W.seq
    refine W.cond (b := true) ?_ ?_
    · simp (disch := omega) only [ev_tmp, get_of, upd_same, upd_ne, hl4, decide_true, decide_false]
    simp only [cond_true, cond_false]
    apply W.skip
    simp only [onN, onB]
    have hql : ((fin s V E t).set t ((fin s V E t).getD t 0 + V.getD t 0)).length = 8 := by rw [List.length_set, hfl, hs]
    have A1 := ld_q (n := n1 + 1 + 1 + 1) (ti29 ax) rfl (g := g') (f := n) (u := n * 1024 + 0) (off := 0 + t) (cs := wvs (fin s V E t)) (by rw [p1]; exact rowOf_one) (by rw [Nat.zero_add]; exact wvs_get (by omega)) (by omega)
    have A2 := ld_q (n := n1 + 1 + 1 + 1) (ti29 ax) rfl (g := g') (f := n1 + 1) (u := (n1 + 1) * 1024 + 0) (off := 0 + t) (cs := wvs V) (by rw [p4]; exact rowOf_one) (by rw [Nat.zero_add]; exact wvs_get (by omega)) (by omega)
    have A3 := fun v hv => st_q (n := n1 + 1 + 1 + 1) (ti29 ax) (g := g') (f := n) (u := n * 1024 + 0) (off := 0 + t) (v := v) p1 (by rw [wvs_len]; omega) hv (by omega)
    repeat apply W.seq
    apply W.block
    repeat apply W.seq
    apply W.region
    · simp (disch := first | omega | (simp (disch := omega) [ev_tmp, ev_const, get_of, upd_same, upd_ne, h94, Tryd.underlying3, Tryd.underlying83, Tryd.underlying5, Tryd.underlying29, Tryd.underlying22]; done) | (apply inK_i64; omega) | (apply inK_u64; omega)) only [op_len, cond_true, cond_false, pick_on, stepC_if, goC_true, goC_false, guard_tt, guard_tf, guard_ft, guard_ff, slot_zero, slot_succ, put_some, runC_cons, runC_nil, stepC_free, dstC_dst, dstC_none, thenC_some, cop_assign, cop_move, cop_conv, cop_bin, cop_un, cop_pick, cop_index, cop_indexAddr, cop_load, cop_store, cop_alloc, cop_box, cop_build, cop_slice, cop_s2a, cop_field, cop_fieldAddr, cop_extract, cop_nilCheck, cop_call, cop_builtin, cop_buildSlice, ev_tmp, ev_const, ev_global, ev_func, put_of, get_of, upd_same, upd_ne, List.toList_toArray, List.map_cons, List.map_nil, some_map, none_map, ti3, ti83, ti5, ti29, ti22, h94]
      with_reducible rfl
    simp only [onN, onB]
    repeat apply W.seq
    apply W.last
    · kernel_rfl
    · simp (disch := first | omega | (simp (disch := omega) [ev_tmp, ev_const, get_of, upd_same, upd_ne, h2, h6, Tryd.underlying3, Tryd.underlying83, Tryd.underlying5, Tryd.underlying29, Tryd.underlying22]; done) | (apply inK_i64; omega) | (apply inK_u64; omega)) only [op_len, cond_true, cond_false, pick_on, stepC_if, goC_true, goC_false, guard_tt, guard_tf, guard_ft, guard_ff, slot_zero, slot_succ, put_some, runC_cons, runC_nil, stepC_free, dstC_dst, dstC_none, thenC_some, cop_assign, cop_move, cop_conv, cop_bin, cop_un, cop_pick, cop_index, cop_indexAddr, cop_load, cop_store, cop_alloc, cop_box, cop_build, cop_slice, cop_s2a, cop_field, cop_fieldAddr, cop_extract, cop_nilCheck, cop_call, cop_builtin, cop_buildSlice, ev_tmp, ev_const, ev_global, ev_func, put_of, get_of, upd_same, upd_ne, List.toList_toArray, List.map_cons, List.map_nil, some_map, none_map, ti3, ti83, ti5, ti29, ti22, quietL_cons, quietL_one, inner_st, thenL_same, thenL_rd, lastL_some, insAll_nil, insAll_cons, h2, h6, natOf_nat, idx_arr (ti30 ax) (ti29 ax) (show t < 8 by omega), idx_arr (ti96 ax) (ti29 ax) ht4, A1, A2, A3 _ (vw_one _), bw_add, cells_vw, I0, I1]
      with_reducible rfl
    simp only [onN, onB]
    have hN : fupd g' n ⟨false, [(n * 1024 + 0, (wvs (fin s V E t)).set (0 + t) (vw ((fin s V E t).getD t 0 + V.getD t 0)))], none⟩ = fupd g' n ⟨false, [(n * 1024 + 0, wvs ((fin s V E t).set t ((fin s V E t).getD t 0 + V.getD t 0)))], none⟩ := by rw [Nat.zero_add, wvs_set]
    rw [hN]
    have c4 : (t : Int) + 4 = ((t + 4 : Nat) : Int) := by omega
    have B1 := ld_q (n := n1 + 1 + 1 + 1) (ti29 ax) rfl (g := fupd g' n ⟨false, [(n * 1024 + 0, wvs ((fin s V E t).set t ((fin s V E t).getD t 0 + V.getD t 0)))], none⟩) (f := n) (u := n * 1024 + 0) (off := 0 + (t + 4)) (cs := wvs ((fin s V E t).set t ((fin s V E t).getD t 0 + V.getD t 0))) (by rw [fupd_same]; exact rowOf_one) (by rw [Nat.zero_add]; exact wvs_get (by omega)) (by omega)
    have B2 := ld_q (n := n1 + 1 + 1 + 1) (ti29 ax) rfl (g := fupd g' n ⟨false, [(n * 1024 + 0, wvs ((fin s V E t).set t ((fin s V E t).getD t 0 + V.getD t 0)))], none⟩) (f := n1 + 1 + 1) (u := (n1 + 1 + 1) * 1024 + 0) (off := 0 + t) (cs := wvs E) (by rw [fupd_ne _ _ _ _ (by omega), p5]; exact rowOf_one) (by rw [Nat.zero_add]; exact wvs_get (by omega)) (by omega)
    have B3 := fun v hv => st_q (n := n1 + 1 + 1 + 1) (ti29 ax) (g := fupd g' n ⟨false, [(n * 1024 + 0, wvs ((fin s V E t).set t ((fin s V E t).getD t 0 + V.getD t 0)))], none⟩) (f := n) (u := n * 1024 + 0) (off := 0 + (t + 4)) (v := v) (fupd_same _ _ _) (by rw [wvs_len]; omega) hv (by omega)
    simp only [fupd_fupd] at B3
    repeat apply W.seq
    apply W.last
    · kernel_rfl
    · simp (disch := first | omega | (simp (disch := omega) [ev_tmp, ev_const, get_of, upd_same, upd_ne, h2, h7, Tryd.underlying3, Tryd.underlying83, Tryd.underlying5, Tryd.underlying29, Tryd.underlying22]; done) | (apply inK_i64; omega) | (apply inK_u64; omega)) only [op_len, cond_true, cond_false, pick_on, stepC_if, goC_true, goC_false, guard_tt, guard_tf, guard_ft, guard_ff, slot_zero, slot_succ, put_some, runC_cons, runC_nil, stepC_free, dstC_dst, dstC_none, thenC_some, cop_assign, cop_move, cop_conv, cop_bin, cop_un, cop_pick, cop_index, cop_indexAddr, cop_load, cop_store, cop_alloc, cop_box, cop_build, cop_slice, cop_s2a, cop_field, cop_fieldAddr, cop_extract, cop_nilCheck, cop_call, cop_builtin, cop_buildSlice, ev_tmp, ev_const, ev_global, ev_func, put_of, get_of, upd_same, upd_ne, List.toList_toArray, List.map_cons, List.map_nil, some_map, none_map, ti3, ti83, ti5, ti29, ti22, quietL_cons, quietL_one, inner_st, thenL_same, thenL_rd, lastL_some, insAll_nil, insAll_cons, h2, h7, oi_add, c4, natOf_nat, idx_arr (ti30 ax) (ti29 ax) (show t + 4 < 8 by omega), idx_arr (ti96 ax) (ti29 ax) ht4, B1, B2, B3 _ (vw_one _), bw_add, cells_vw, I0, I2]
      with_reducible rfl
    simp only [onN, onB]
    repeat apply W.seq
    apply W.region
    · simp (disch := first | omega | (simp (disch := omega) [ev_tmp, ev_const, get_of, upd_same, upd_ne, h94, Tryd.underlying3, Tryd.underlying83, Tryd.underlying5, Tryd.underlying29, Tryd.underlying22]; done) | (apply inK_i64; omega) | (apply inK_u64; omega)) only [op_len, cond_true, cond_false, pick_on, stepC_if, goC_true, goC_false, guard_tt, guard_tf, guard_ft, guard_ff, slot_zero, slot_succ, put_some, runC_cons, runC_nil, stepC_free, dstC_dst, dstC_none, thenC_some, cop_assign, cop_move, cop_conv, cop_bin, cop_un, cop_pick, cop_index, cop_indexAddr, cop_load, cop_store, cop_alloc, cop_box, cop_build, cop_slice, cop_s2a, cop_field, cop_fieldAddr, cop_extract, cop_nilCheck, cop_call, cop_builtin, cop_buildSlice, ev_tmp, ev_const, ev_global, ev_func, put_of, get_of, upd_same, upd_ne, List.toList_toArray, List.map_cons, List.map_nil, some_map, none_map, ti3, ti83, ti5, ti29, ti22, oi_add, h94]
      with_reducible rfl
    simp only [onN, onB]
    refine ⟨4 - (t + 1), by omega, t + 1, _, _, rd', by omega, rfl, rfl, rfl, ?_, ?_, ?_, ?_, ?_, ?_, ?_, ?_, ?_, ?_, hrd⟩
    · simp (disch := omega) only [upd_same, upd_ne, h2]
    · simp (disch := omega) only [upd_same, upd_ne, h4]
    · simp (disch := omega) only [upd_same, upd_ne, h6]
    · simp (disch := omega) only [upd_same, upd_ne, h7]
    · simp (disch := omega) only [upd_same, upd_ne]; rfl
    · rw [fupd_same, Nat.zero_add, wvs_set]; rfl
    · rw [fupd_ne _ _ _ _ (by omega)]; exact p2
    · rw [fupd_ne _ _ _ _ (by omega)]; exact p4
    · rw [fupd_ne _ _ _ _ (by omega)]; exact p5
    · intro i hi; rw [fupd_ne _ _ _ _ (by omega)]; exact p0 i hi
  have htl : t < 64 := by omega
  obtain ⟨l1, l2⟩ := rds_len s (sched bs 64) kt hs t
  have hstep : rds s (sched bs 64) kt (t + 1) = ([rx (rds s (sched bs 64) kt t).2 (kt.getD t 0) ((sched bs 64).getD t 0) + ry (rds s (sched bs 64) kt t).1, (rds s (sched bs 64) kt t).1.getD 0 0, (rds s (sched bs 64) kt t).1.getD 1 0, (rds s (sched bs 64) kt t).1.getD 2 0], [(rds s (sched bs 64) kt t).1.getD 3 0 + rx (rds s (sched bs 64) kt t).2 (kt.getD t 0) ((sched bs 64).getD t 0), (rds s (sched bs 64) kt t).2.getD 0 0, (rds s (sched bs 64) kt t).2.getD 1 0, (rds s (sched bs 64) kt t).2.getD 2 0]) := rfl
  generalize hV : (rds s (sched bs 64) kt t).1 = V at *
  generalize hE : (rds s (sched bs 64) kt t).2 = E at *
  repeat apply W.seq
  refine W.cond (b := true) ?_ ?_
  · simp (disch := omega) only [ev_tmp, get_of, upd_same, upd_ne, hlt, decide_true, decide_false]
  simp only [cond_true, cond_false]
  apply W.skip
  simp only [onN, onB]
  have hkt : (wvs kt).toArray.toList[t]? = some (vw (kt.getD t 0)) := by rw [List.toList_toArray]; exact wvs_get (by omega)
  repeat apply W.seq
  apply W.block
  repeat apply W.seq
  apply W.region
  · simp (disch := first | omega | (simp (disch := omega) [ev_tmp, ev_const, get_of, upd_same, upd_ne, h21, h22, Tryd.underlying3, Tryd.underlying83, Tryd.underlying5, Tryd.underlying29, Tryd.underlying22]; done) | (apply inK_i64; omega) | (apply inK_u64; omega)) only [op_len, cond_true, cond_false, pick_on, stepC_if, goC_true, goC_false, guard_tt, guard_tf, guard_ft, guard_ff, slot_zero, slot_succ, put_some, runC_cons, runC_nil, stepC_free, dstC_dst, dstC_none, thenC_some, cop_assign, cop_move, cop_conv, cop_bin, cop_un, cop_pick, cop_index, cop_indexAddr, cop_load, cop_store, cop_alloc, cop_box, cop_build, cop_slice, cop_s2a, cop_field, cop_fieldAddr, cop_extract, cop_nilCheck, cop_call, cop_builtin, cop_buildSlice, ev_tmp, ev_const, ev_global, ev_func, put_of, get_of, upd_same, upd_ne, List.toList_toArray, List.map_cons, List.map_nil, some_map, none_map, ti3, ti83, ti5, ti29, ti22, h21, h22, natOf_nat, idx_agg (ti75 ax) (ti29 ax) rfl htl hkt]
    with_reducible rfl
  simp only [onN, onB]
  have QV := fun (k : Nat) (hk : k < 4) => ld_q (n := n1 + 1 + 1 + 1) (ti29 ax) rfl (g := g') (f := n1 + 1) (u := (n1 + 1) * 1024 + 0) (off := 0 + k) (cs := wvs V) (by rw [p4]; exact rowOf_one) (by rw [Nat.zero_add]; exact wvs_get (by omega)) (by omega)
  have QE := fun (k : Nat) (hk : k < 4) => ld_q (n := n1 + 1 + 1 + 1) (ti29 ax) rfl (g := g') (f := n1 + 1 + 1) (u := (n1 + 1 + 1) * 1024 + 0) (off := 0 + k) (cs := wvs E) (by rw [p5]; exact rowOf_one) (by rw [Nat.zero_add]; exact wvs_get (by omega)) (by omega)
  have QW := ld_q (n := n1 + 1 + 1 + 1) (ti29 ax) rfl (g := g') (f := n1) (u := n1 * 1024 + 0) (off := 0 + t) (cs := wvs (sched bs 64)) (by rw [p3]; exact rowOf_one) (by rw [Nat.zero_add]; exact wvs_get (by rw [sched_len]; omega)) (by omega)
  have LV := fun (rd : List Nat) (k : Nat) (hk : k < 4) => ld_one (n := n1 + 1 + 1 + 1) (lim := lim) (rd := rd) (wr := wr) (ti29 ax) rfl (g := g') (f := n1 + 1) (u := (n1 + 1) * 1024 + 0) (off := 0 + k) (cs := wvs V) (by rw [p4]; exact rowOf_one) (by rw [Nat.zero_add]; exact wvs_get (by omega))
  have LE := fun (rd : List Nat) (k : Nat) (hk : k < 4) => ld_one (n := n1 + 1 + 1 + 1) (lim := lim) (rd := rd) (wr := wr) (ti29 ax) rfl (g := g') (f := n1 + 1 + 1) (u := (n1 + 1 + 1) * 1024 + 0) (off := 0 + k) (cs := wvs E) (by rw [p5]; exact rowOf_one) (by rw [Nat.zero_add]; exact wvs_get (by omega))
  have IW := fun l => ins_ge (m := lim) (f := n1) l (by omega)
  simp only [I1, I2] at LV LE
  have MIX : ∀ x s, callR Tryd.prog (EE ax) 78 [vw x, .int .i64 6, .int .i64 11, .int .i64 25] s = some (vw (mix32 x 6 11 25), s) := fun x s => mix_run ax hp x 6 11 25 (by omega) (by omega) (by omega) (by omega) (by omega) (by omega) s
  have MIY : ∀ x s, callR Tryd.prog (EE ax) 78 [vw x, .int .i64 2, .int .i64 13, .int .i64 22] s = some (vw (mix32 x 2 13 22), s) := fun x s => mix_run ax hp x 2 13 22 (by omega) (by omega) (by omega) (by omega) (by omega) (by omega) s
  repeat apply W.seq
  apply W.quiet
  · simp (disch := first | omega | (simp (disch := omega) [ev_tmp, ev_const, get_of, upd_same, upd_ne, h5, h7, Tryd.underlying3, Tryd.underlying83, Tryd.underlying5, Tryd.underlying29, Tryd.underlying22]; done) | (apply inK_i64; omega) | (apply inK_u64; omega)) only [op_len, cond_true, cond_false, pick_on, stepC_if, goC_true, goC_false, guard_tt, guard_tf, guard_ft, guard_ff, slot_zero, slot_succ, put_some, runC_cons, runC_nil, stepC_free, dstC_dst, dstC_none, thenC_some, cop_assign, cop_move, cop_conv, cop_bin, cop_un, cop_pick, cop_index, cop_indexAddr, cop_load, cop_store, cop_alloc, cop_box, cop_build, cop_slice, cop_s2a, cop_field, cop_fieldAddr, cop_extract, cop_nilCheck, cop_call, cop_builtin, cop_buildSlice, ev_tmp, ev_const, ev_global, ev_func, put_of, get_of, upd_same, upd_ne, List.toList_toArray, List.map_cons, List.map_nil, some_map, none_map, ti3, ti83, ti5, ti29, ti22, quietC_cons, quietC_nil, inner_st, thenQ_same, thenQ_rd, h5, h7, natOf_nat, natOf_lit, idx_arr (ti75 ax) (ti29 ax) htl, idx_arr (ti96 ax) (ti29 ax) (show 0 < 4 by omega), idx_arr (ti96 ax) (ti29 ax) (show 1 < 4 by omega), idx_arr (ti96 ax) (ti29 ax) (show 2 < 4 by omega), idx_arr (ti96 ax) (ti29 ax) (show 3 < 4 by omega), QE 0 (by omega), QE 1 (by omega), QE 2 (by omega), QE 3 (by omega), QW, MIX, bw_add, bw_and, bw_xor, bw_not, I2, IW]
    with_reducible rfl
  simp only [onN, onB]
  repeat apply W.seq
  apply W.quiet
  · simp (disch := first | omega | (simp (disch := omega) [ev_tmp, ev_const, get_of, upd_same, upd_ne, h6, Tryd.underlying3, Tryd.underlying83, Tryd.underlying5, Tryd.underlying29, Tryd.underlying22]; done) | (apply inK_i64; omega) | (apply inK_u64; omega)) only [op_len, cond_true, cond_false, pick_on, stepC_if, goC_true, goC_false, guard_tt, guard_tf, guard_ft, guard_ff, slot_zero, slot_succ, put_some, runC_cons, runC_nil, stepC_free, dstC_dst, dstC_none, thenC_some, cop_assign, cop_move, cop_conv, cop_bin, cop_un, cop_pick, cop_index, cop_indexAddr, cop_load, cop_store, cop_alloc, cop_box, cop_build, cop_slice, cop_s2a, cop_field, cop_fieldAddr, cop_extract, cop_nilCheck, cop_call, cop_builtin, cop_buildSlice, ev_tmp, ev_const, ev_global, ev_func, put_of, get_of, upd_same, upd_ne, List.toList_toArray, List.map_cons, List.map_nil, some_map, none_map, ti3, ti83, ti5, ti29, ti22, quietC_cons, quietC_nil, inner_st, thenQ_same, thenQ_rd, h6, natOf_lit, idx_arr (ti96 ax) (ti29 ax) (show 0 < 4 by omega), idx_arr (ti96 ax) (ti29 ax) (show 1 < 4 by omega), idx_arr (ti96 ax) (ti29 ax) (show 2 < 4 by omega), QV 0 (by omega), QV 1 (by omega), QV 2 (by omega), MIY, bw_add, bw_and, bw_xor, I1]
    with_reducible rfl
  simp only [onN, onB]
  have SE := fun x => st_all (n := n1 + 1 + 1 + 1) (lim := lim) (rd := rd') (wr := wr) (ti96 ax) (f := n1 + 1 + 1) (u := (n1 + 1 + 1) * 1024 + 0) (vs := [vw (V.getD 3 0 + x), vw (E.getD 0 0), vw (E.getD 1 0), vw (E.getD 2 0)]) p5 rfl (by rw [wvs_len]; omega) rfl
  simp only [I2] at SE
  repeat apply W.seq
  apply W.region
  · simp (disch := first | omega | (simp (disch := omega) [ev_tmp, ev_const, get_of, upd_same, upd_ne, h6, h7, cells_vw, Tryd.underlying3, Tryd.underlying83, Tryd.underlying5, Tryd.underlying29, Tryd.underlying22]; done) | (apply inK_i64; omega) | (apply inK_u64; omega)) only [op_len, cond_true, cond_false, pick_on, stepC_if, goC_true, goC_false, guard_tt, guard_tf, guard_ft, guard_ff, slot_zero, slot_succ, put_some, runC_cons, runC_nil, stepC_free, dstC_dst, dstC_none, thenC_some, cop_assign, cop_move, cop_conv, cop_bin, cop_un, cop_pick, cop_index, cop_indexAddr, cop_load, cop_store, cop_alloc, cop_box, cop_build, cop_slice, cop_s2a, cop_field, cop_fieldAddr, cop_extract, cop_nilCheck, cop_call, cop_builtin, cop_buildSlice, ev_tmp, ev_const, ev_global, ev_func, put_of, get_of, upd_same, upd_ne, List.toList_toArray, List.map_cons, List.map_nil, some_map, none_map, ti3, ti83, ti5, ti29, ti22, h6, h7, natOf_lit, idx_arr (ti96 ax) (ti29 ax) (show 0 < 4 by omega), idx_arr (ti96 ax) (ti29 ax) (show 1 < 4 by omega), idx_arr (ti96 ax) (ti29 ax) (show 2 < 4 by omega), idx_arr (ti96 ax) (ti29 ax) (show 3 < 4 by omega), LV rd' 3 (by omega), LE rd' 0 (by omega), LE rd' 1 (by omega), LE rd' 2 (by omega), bw_add, build_arr4 (ti96 ax) (ti29 ax), cells_agg, SE]
    with_reducible rfl
  simp only [onN, onB]
  have p4' : ∀ x, fupd g' (n1 + 1 + 1) x (n1 + 1) = ⟨false, [((n1 + 1) * 1024 + 0, wvs V)], none⟩ := fun x => by rw [fupd_ne _ _ _ _ (by omega)]; exact p4
  have LV2 := fun (x : Fam) (k : Nat) (hk : k < 4) => ld_one (n := n1 + 1 + 1 + 1) (lim := lim) (rd := rd') (wr := wr) (ti29 ax) rfl (g := fupd g' (n1 + 1 + 1) x) (f := n1 + 1) (u := (n1 + 1) * 1024 + 0) (off := 0 + k) (cs := wvs V) (by rw [p4' x]; exact rowOf_one) (by rw [Nat.zero_add]; exact wvs_get (by omega))
  have SV := fun fm x => st_all (n := n1 + 1 + 1 + 1) (lim := lim) (rd := rd') (wr := wr) (ti96 ax) (f := n1 + 1) (u := (n1 + 1) * 1024 + 0) (vs := [vw x, vw (V.getD 0 0), vw (V.getD 1 0), vw (V.getD 2 0)]) (p4' fm) rfl (by rw [wvs_len]; omega) rfl
  simp only [I1] at SV LV2
  repeat apply W.seq
  apply W.region
  · simp (disch := first | omega | (simp (disch := omega) [ev_tmp, ev_const, get_of, upd_same, upd_ne, h6, cells_vw, Tryd.underlying3, Tryd.underlying83, Tryd.underlying5, Tryd.underlying29, Tryd.underlying22]; done) | (apply inK_i64; omega) | (apply inK_u64; omega)) only [op_len, cond_true, cond_false, pick_on, stepC_if, goC_true, goC_false, guard_tt, guard_tf, guard_ft, guard_ff, slot_zero, slot_succ, put_some, runC_cons, runC_nil, stepC_free, dstC_dst, dstC_none, thenC_some, cop_assign, cop_move, cop_conv, cop_bin, cop_un, cop_pick, cop_index, cop_indexAddr, cop_load, cop_store, cop_alloc, cop_box, cop_build, cop_slice, cop_s2a, cop_field, cop_fieldAddr, cop_extract, cop_nilCheck, cop_call, cop_builtin, cop_buildSlice, ev_tmp, ev_const, ev_global, ev_func, put_of, get_of, upd_same, upd_ne, List.toList_toArray, List.map_cons, List.map_nil, some_map, none_map, ti3, ti83, ti5, ti29, ti22, h6, natOf_lit, idx_arr (ti96 ax) (ti29 ax) (show 0 < 4 by omega), idx_arr (ti96 ax) (ti29 ax) (show 1 < 4 by omega), idx_arr (ti96 ax) (ti29 ax) (show 2 < 4 by omega), LV2 _ 0 (by omega), LV2 _ 1 (by omega), LV2 _ 2 (by omega), bw_add, build_arr4 (ti96 ax) (ti29 ax), cells_agg, SV]
    with_reducible rfl
  simp only [onN, onB]
  repeat apply W.seq
  apply W.region
  · simp (disch := first | omega | (simp (disch := omega) [ev_tmp, ev_const, get_of, upd_same, upd_ne, h22, Tryd.underlying3, Tryd.underlying83, Tryd.underlying5, Tryd.underlying29, Tryd.underlying22]; done) | (apply inK_i64; omega) | (apply inK_u64; omega)) only [op_len, cond_true, cond_false, pick_on, stepC_if, goC_true, goC_false, guard_tt, guard_tf, guard_ft, guard_ff, slot_zero, slot_succ, put_some, runC_cons, runC_nil, stepC_free, dstC_dst, dstC_none, thenC_some, cop_assign, cop_move, cop_conv, cop_bin, cop_un, cop_pick, cop_index, cop_indexAddr, cop_load, cop_store, cop_alloc, cop_box, cop_build, cop_slice, cop_s2a, cop_field, cop_fieldAddr, cop_extract, cop_nilCheck, cop_call, cop_builtin, cop_buildSlice, ev_tmp, ev_const, ev_global, ev_func, put_of, get_of, upd_same, upd_ne, List.toList_toArray, List.map_cons, List.map_nil, some_map, none_map, ti3, ti83, ti5, ti29, ti22, oi_add, h22]
    with_reducible rfl
  simp only [onN, onB]
  refine ⟨64 - (t + 1), by omega, t + 1, _, _, rd', by omega, rfl, rfl, rfl, ?_, ?_, ?_, ?_, ?_, ?_, ?_, ?_, ?_, ?_, ?_, ?_, ?_, hrd⟩
  · simp (disch := omega) only [upd_same, upd_ne, h2]
  · simp (disch := omega) only [upd_same, upd_ne, h4]
  · simp (disch := omega) only [upd_same, upd_ne, h6]
  · simp (disch := omega) only [upd_same, upd_ne, h7]
  · simp (disch := omega) only [upd_same, upd_ne, h5]
  · simp (disch := omega) only [upd_same, upd_ne, h21]
  · simp (disch := omega) only [upd_same, upd_ne]; rfl
  · rw [fupd_ne _ _ _ _ (by omega), fupd_ne _ _ _ _ (by omega)]; exact p1
  · rw [fupd_ne _ _ _ _ (by omega), fupd_ne _ _ _ _ (by omega)]; exact p2
  · rw [fupd_ne _ _ _ _ (by omega), fupd_ne _ _ _ _ (by omega)]; exact p3
  · rw [fupd_same, hstep]; rfl
  · rw [fupd_ne _ _ _ _ (by omega), fupd_same, hstep]; rfl
  · intro i hi; rw [fupd_ne _ _ _ _ (by omega), fupd_ne _ _ _ _ (by omega)]; exact p0 i hi
end Go.Proofs.YtcmfoipnoejmlaaDoor
