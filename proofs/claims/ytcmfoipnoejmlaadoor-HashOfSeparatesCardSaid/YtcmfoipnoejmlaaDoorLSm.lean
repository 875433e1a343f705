/- The law HashSumMatchesSpec in the plain machine. -/
import Derived.Test.YtcmfoipnoejmlaaDoorArr
import Derived.Test.YtcmfoipnoejmlaaDoorLMm
namespace Go.Proofs.YtcmfoipnoejmlaaDoor
open Go Go.RowKit
set_option linter.unusedSimpArgs false
set_option linter.unusedVariables false
set_option maxRecDepth 100000
theorem info_u8 : ∃ i, Tryd.prog.info? 5 = some i ∧ i.size = 1 := by
  have h : (Tryd.prog.info? 5).map (·.size) = some 1 := by kernel_rfl
  cases hi : Tryd.prog.info? 5 with
  | none => rw [hi] at h; simp at h
  | some i => rw [hi] at h; simp at h; exact ⟨i, rfl, h⟩
theorem guard32 : Tryd.prog.eqGuardType Tryd.prog.depth 24 = false := by kernel_rfl
set_option maxHeartbeats 4000000 in
theorem sm_law (x : Option Addr) (len cap : Nat) (bs : List UInt8) (n : Nat) (g : Nat → Fam) (hb : ByteArg g n x len bs) (hG : 1 < n) (hG0 : 0 < n) (hk : rowOf (g 1).rows (1 * 1024) = some kcells) (hk0 : rowOf (g 0).rows (0 * 1024) = some kcells) :
    ∃ v s2, callR Tryd.prog (EE axH) 3 [.slice x len cap] (St n g 0 [] []) = some (v, s2) ∧ v = .bool true := by
  have hax : axH 3 = none := axH_plain _ (by decide)
  have SAN : callR Tryd.prog (EE axH) 16 [] (St n g 0 [] []) = some (.bool true, St n g 0 (ins 0 [] 1) []) := sane_run _ hk
  have hkw : rowOf (g 1).rows (1 * 1024) = some (wvs KW) := by rw [hk, kcells_eq]
  have hkw0 : rowOf (g 0).rows (0 * 1024) = some (wvs KW) := by rw [hk0, kcells_eq]
  refine callR_ex (fn := Tryd.f3) 29 hax (fn3 axH) rfl Tryd.ntmps3 (by simp) ?_
  simp (disch := omega) only [ofArgs_cons, ofArgs_nil, Nat.reduceAdd]
  repeat apply W.seq
  apply W.region
  · simp (disch := first | omega | (simp (disch := omega) [ev_tmp, ev_const, get_of, upd_same, upd_ne, Tryd.underlying3, Tryd.underlying9, Tryd.underlying4, Tryd.underlying5, Tryd.underlying22, Tryd.underlying24]; done) | (apply inK_i64; omega) | (apply inK_u64; omega)) only [op_len, cond_true, cond_false, pick_on, stepC_if, goC_true, goC_false, guard_tt, guard_tf, guard_ft, guard_ff, slot_zero, slot_succ, put_some, runC_cons, runC_nil, stepC_free, dstC_dst, dstC_none, thenC_some, cop_assign, cop_move, cop_conv, cop_bin, cop_un, cop_pick, cop_index, cop_indexAddr, cop_load, cop_store, cop_alloc, cop_box, cop_build, cop_slice, cop_s2a, cop_field, cop_fieldAddr, cop_extract, cop_nilCheck, cop_call, cop_builtin, cop_buildSlice, ev_tmp, ev_const, ev_global, ev_func, put_of, get_of, upd_same, upd_ne, List.toList_toArray, List.map_cons, List.map_nil, some_map, none_map, ti3, ti4]
    with_reducible rfl
  simp only [onN, onB]
  repeat apply W.seq
  apply W.region
  · simp (disch := first | omega | (simp (disch := omega) [ev_tmp, ev_const, get_of, upd_same, upd_ne, Tryd.underlying3, Tryd.underlying9, Tryd.underlying4, Tryd.underlying5, Tryd.underlying22, Tryd.underlying24]; done) | (apply inK_i64; omega) | (apply inK_u64; omega)) only [op_len, cond_true, cond_false, pick_on, stepC_if, goC_true, goC_false, guard_tt, guard_tf, guard_ft, guard_ff, slot_zero, slot_succ, put_some, runC_cons, runC_nil, stepC_free, dstC_dst, dstC_none, thenC_some, cop_assign, cop_move, cop_conv, cop_bin, cop_un, cop_pick, cop_index, cop_indexAddr, cop_load, cop_store, cop_alloc, cop_box, cop_build, cop_slice, cop_s2a, cop_field, cop_fieldAddr, cop_extract, cop_nilCheck, cop_call, cop_builtin, cop_buildSlice, ev_tmp, ev_const, ev_global, ev_func, put_of, get_of, upd_same, upd_ne, List.toList_toArray, List.map_cons, List.map_nil, some_map, none_map, ti3, ti4, SAN]
    with_reducible rfl
  simp only [onN, onB]
  repeat apply W.seq
  apply W.region
  · simp (disch := first | omega | (simp (disch := omega) [ev_tmp, ev_const, get_of, upd_same, upd_ne, Tryd.underlying3, Tryd.underlying9, Tryd.underlying4, Tryd.underlying5, Tryd.underlying22, Tryd.underlying24]; done) | (apply inK_i64; omega) | (apply inK_u64; omega)) only [op_len, cond_true, cond_false, pick_on, stepC_if, goC_true, goC_false, guard_tt, guard_tf, guard_ft, guard_ff, slot_zero, slot_succ, put_some, runC_cons, runC_nil, stepC_free, dstC_dst, dstC_none, thenC_some, cop_assign, cop_move, cop_conv, cop_bin, cop_un, cop_pick, cop_index, cop_indexAddr, cop_load, cop_store, cop_alloc, cop_box, cop_build, cop_slice, cop_s2a, cop_field, cop_fieldAddr, cop_extract, cop_nilCheck, cop_call, cop_builtin, cop_buildSlice, ev_tmp, ev_const, ev_global, ev_func, put_of, get_of, upd_same, upd_ne, List.toList_toArray, List.map_cons, List.map_nil, some_map, none_map, ti3, ti4, len_sl (ti22 axH), oi_gtr]
    with_reducible rfl
  simp only [onN, onB]
  by_cases hbig : (1000 : Int) < (len : Int)
  · skip
    repeat apply W.seq
    refine W.cond (b := true) ?_ ?_
    · simp (disch := omega) only [ev_tmp, get_of, upd_same, upd_ne, hbig, decide_true, decide_false]
    simp only [cond_true, cond_false]
    repeat apply W.seq
    apply W.region
    · simp (disch := first | omega | (simp (disch := omega) [ev_tmp, ev_const, get_of, upd_same, upd_ne, Tryd.underlying3, Tryd.underlying9, Tryd.underlying4, Tryd.underlying5, Tryd.underlying22, Tryd.underlying24]; done) | (apply inK_i64; omega) | (apply inK_u64; omega)) only [op_len, cond_true, cond_false, pick_on, stepC_if, goC_true, goC_false, guard_tt, guard_tf, guard_ft, guard_ff, slot_zero, slot_succ, put_some, runC_cons, runC_nil, stepC_free, dstC_dst, dstC_none, thenC_some, cop_assign, cop_move, cop_conv, cop_bin, cop_un, cop_pick, cop_index, cop_indexAddr, cop_load, cop_store, cop_alloc, cop_box, cop_build, cop_slice, cop_s2a, cop_field, cop_fieldAddr, cop_extract, cop_nilCheck, cop_call, cop_builtin, cop_buildSlice, ev_tmp, ev_const, ev_global, ev_func, put_of, get_of, upd_same, upd_ne, List.toList_toArray, List.map_cons, List.map_nil, some_map, none_map, ti3, ti4]
      with_reducible rfl
    simp only [onN, onB]
    apply W.ret
    refine ⟨.inr rfl, [.bool true], ?_⟩
    apply Exists.intro
    apply And.intro
    · simp (disch := omega) only [resC, Tryd.results3, get_of, upd_same]
      all_goals rfl
    · rfl
  repeat apply W.seq
  refine W.cond (b := false) ?_ ?_
  · simp (disch := omega) only [ev_tmp, get_of, upd_same, upd_ne, hbig, decide_true, decide_false]
  simp only [cond_true, cond_false]
  apply W.skip
  simp only [onN, onB]
  obtain ⟨rdc, ec, -⟩ := hb.first (N := n) (g' := g) (lim := 0) (rd := ins 0 [] 1) (wr := []) (cap := cap) (fun _ _ => rfl)
  have CV := fun ρ o => conv_str (P := Tryd.prog) (Γ := EE axH) (ρ := ρ) (o := o) (ti22 axH) (ti9 axH) (ti5 axH) ec
  repeat apply W.seq
  apply W.region
  · simp (disch := first | omega | (simp (disch := omega) [ev_tmp, ev_const, get_of, upd_same, upd_ne, Tryd.underlying3, Tryd.underlying9, Tryd.underlying4, Tryd.underlying5, Tryd.underlying22, Tryd.underlying24]; done) | (apply inK_i64; omega) | (apply inK_u64; omega)) only [op_len, cond_true, cond_false, pick_on, stepC_if, goC_true, goC_false, guard_tt, guard_tf, guard_ft, guard_ff, slot_zero, slot_succ, put_some, runC_cons, runC_nil, stepC_free, dstC_dst, dstC_none, thenC_some, cop_assign, cop_move, cop_conv, cop_bin, cop_un, cop_pick, cop_index, cop_indexAddr, cop_load, cop_store, cop_alloc, cop_box, cop_build, cop_slice, cop_s2a, cop_field, cop_fieldAddr, cop_extract, cop_nilCheck, cop_call, cop_builtin, cop_buildSlice, ev_tmp, ev_const, ev_global, ev_func, put_of, get_of, upd_same, upd_ne, List.toList_toArray, List.map_cons, List.map_nil, some_map, none_map, ti3, ti4, CV]
    with_reducible rfl
  simp only [onN, onB]
  obtain ⟨n1, g1, rd1, e1, a1, a2, -⟩ := hsum_run axH axH_plain axH_comp2 x len cap bs (by omega) n g 0 rdc [] (Nat.zero_le _) hb hG hkw
  have S1 := st_all (n := n1 + 1) (lim := 0) (rd := rd1) (wr := []) (ti24 axH) (g := fupd g1 n1 ⟨false, [(n1 * 1024 + 0, List.replicate 32 (.int .u8 0))], none⟩) (f := n1) (u := n1 * 1024 + 0) (vs := bvs (sha bs)) (fupd_same _ _ _) (by rw [bvs_len, sha_len]) (by simp) (bvs_one _)
  rw [fupd_fupd] at S1
  repeat apply W.seq
  apply W.region
  · simp (disch := first | omega | (simp (disch := omega) [ev_tmp, ev_const, get_of, upd_same, upd_ne, Tryd.underlying3, Tryd.underlying9, Tryd.underlying4, Tryd.underlying5, Tryd.underlying22, Tryd.underlying24]; done) | (apply inK_i64; omega) | (apply inK_u64; omega)) only [op_len, cond_true, cond_false, pick_on, stepC_if, goC_true, goC_false, guard_tt, guard_tf, guard_ft, guard_ff, slot_zero, slot_succ, put_some, runC_cons, runC_nil, stepC_free, dstC_dst, dstC_none, thenC_some, cop_assign, cop_move, cop_conv, cop_bin, cop_un, cop_pick, cop_index, cop_indexAddr, cop_load, cop_store, cop_alloc, cop_box, cop_build, cop_slice, cop_s2a, cop_field, cop_fieldAddr, cop_extract, cop_nilCheck, cop_call, cop_builtin, cop_buildSlice, ev_tmp, ev_const, ev_global, ev_func, put_of, get_of, upd_same, upd_ne, List.toList_toArray, List.map_cons, List.map_nil, some_map, none_map, ti3, ti4, e1, alloc_st (ti24 axH), cells_agg, S1]
    with_reducible rfl
  simp only [onN, onB]
  generalize hg2 : fupd g1 n1 ⟨false, [(n1 * 1024 + 0, bvs (sha bs))], none⟩ = g2
  have p1 : g2 n1 = ⟨false, [(n1 * 1024 + 0, bvs (sha bs))], none⟩ := by rw [← hg2, fupd_same]
  have p0 : ∀ i, i < n → g2 i = g i := fun i hi => by rw [← hg2, fupd_ne _ _ _ _ (by omega), a2 _ hi]
  clear hg2 S1
  have hbl := hb.1
  have L1 := ld_all (n := n1 + 1) (lim := n1 + 1) (rd := []) (wr := []) (ti24 axH) rfl (g := g2) (f := n1) (u := n1 * 1024 + 0) (cs := bvs (sha bs)) (by rw [p1]; exact rowOf_one) (by rw [bvs_len, sha_len])
  rw [ins_lt (show n1 < n1 + 1 by omega)] at L1
  have hz : (ByteArray.mk bs.toArray).size = len := by rw [mk_size, hbl]
  have CB := fun ρ o => conv_bytes (P := Tryd.prog) (Γ := EE axH) (ρ := ρ) (o := o) (n := n1 + 1) (g := g2) (lim := n1 + 1) (rd := []) (wr := []) (x := ⟨bs.toArray⟩) (ti9 axH) (ti22 axH) (ti5 axH) (by rw [hz]; omega)
  generalize hgb : fupd g2 (n1 + 1) ⟨false, [((n1 + 1) * 1024 + 2, byteVs ⟨bs.toArray⟩)], none⟩ = gb at CB
  rw [hz] at CB
  have b0 : ∀ i, i < n → gb i = g i := fun i hi => by rw [← hgb, fupd_ne _ _ _ _ (by omega)]; exact p0 i hi
  have hba : ByteArg gb (n1 + 1 + 1) (some (mkA (n1 + 1) ((n1 + 1) * 1024 + 2) 0)) len bs := by
    refine ⟨hbl, .inr ⟨n1 + 1, (n1 + 1) * 1024 + 2, 0, byteVs ⟨bs.toArray⟩, rfl, by omega, ?_, ?_, ?_⟩⟩
    · rw [← hgb, fupd_same]; exact rowOf_one
    · rw [byteVs_eq, bvs_len, mk_list]; omega
    · rw [byteVs_eq, mk_list, List.drop_zero, List.take_of_length_le (by rw [bvs_len]; omega)]
  clear hgb
  obtain ⟨n3, g3, rd3, e3, d1, d2, d3⟩ := rsum_run axH axH_plain (some (mkA (n1 + 1) ((n1 + 1) * 1024 + 2) 0)) len len bs (by omega) (n1 + 1 + 1) gb (n1 + 1 + 1) [] [] (Nat.le_refl _) hba (by omega) (by rw [b0 _ hG0]; exact hkw0)
  obtain ⟨rde, ee, -⟩ := hb.first (N := n3) (g' := g3) (lim := n3) (rd := []) (wr := []) (cap := cap) (fun i hi => by rw [d2 _ (by omega)]; exact b0 i hi)
  have CW := fun ρ o => conv_str (P := Tryd.prog) (Γ := EE axH) (ρ := ρ) (o := o) (ti22 axH) (ti9 axH) (ti5 axH) ee
  obtain ⟨iu, hiu, hsu⟩ := info_u8
  have OA := fun (ρ : Operand → Value) (s : CS) (d : Option Tmp) (ty t2 : TypeId) (pos : String) (e : Array Edge) (g : Option (Nat × Bool)) (x y : Operand) (hx : ρ x = .agg (bvs (sha bs)).toArray) (hy : ρ y = .agg (bvs (sha bs)).toArray) => oa_eql (P := Tryd.prog) (Γ := EE axH) (ρ := ρ) (s := s) (d := d) (ty := ty) (t2 := t2) (pos := pos) (e := e) (g := g) Tryd.underlying24 Tryd.underlying5 hiu hsu guard32 (sha_len bs) (sha_len bs) hx hy
  repeat apply W.seq
  apply W.draw_ex (ms := [0, 1, 3, 3, 11, 27, 63, 127, 255, 511, 1023, 511, 4095, 8191, 16383])
  · kernel_rfl
  · simp (disch := first | omega | (simp (disch := omega) [ev_tmp, ev_const, get_of, upd_same, upd_ne, Tryd.underlying3, Tryd.underlying9, Tryd.underlying4, Tryd.underlying5, Tryd.underlying22, Tryd.underlying24]; done) | (apply inK_i64; omega) | (apply inK_u64; omega)) only [op_len, cond_true, cond_false, pick_on, stepC_if, goC_true, goC_false, guard_tt, guard_tf, guard_ft, guard_ff, slot_zero, slot_succ, put_some, runC_cons, runC_nil, stepC_free, dstC_dst, dstC_none, thenC_some, cop_assign, cop_move, cop_conv, cop_bin, cop_un, cop_pick, cop_index, cop_indexAddr, cop_load, cop_store, cop_alloc, cop_box, cop_build, cop_slice, cop_s2a, cop_field, cop_fieldAddr, cop_extract, cop_nilCheck, cop_call, cop_builtin, cop_buildSlice, ev_tmp, ev_const, ev_global, ev_func, put_of, get_of, upd_same, upd_ne, List.toList_toArray, List.map_cons, List.map_nil, some_map, none_map, ti3, ti4, drawC_cons, drawC_nil, inner_st, thenD_some, consLg_some, insAll_nil, insAll_cons, L1, CB, e3, CW, OA, beq_self_eq_true, os_eql, decide_true]
    with_reducible rfl
  · simp (disch := first | decide | (apply clash_gen <;> intro f hf <;> first | omega | (simp at hf; done) | (simp; done) | (simp at hf; omega) | (simp at hf ⊢; omega))) only [calmAll_cons, calmAll_nil, calmAll_y0, calmOne_nil, calmOne_set, calmOne_ok, List.nil_append, List.cons_append, List.length_cons, List.length_nil, Nat.reduceAdd, nth_zero, nth_succ, Bool.and_self, Bool.and_true, Bool.true_and]
  simp only [onN, onB]
  apply W.ret
  refine ⟨.inr rfl, [.bool true], ?_⟩
  apply Exists.intro
  apply And.intro
  · simp (disch := omega) only [resC, Tryd.results3, get_of, upd_same]
    all_goals rfl
  · rfl
end Go.Proofs.YtcmfoipnoejmlaaDoor
