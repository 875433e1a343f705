/- The law HashOfMatchesSpec in the plain machine. -/
import Derived.Test.YtcmfoipnoejmlaaDoorHash21
import Derived.Test.YtcmfoipnoejmlaaDoorLSt
import Derived.Test.YtcmfoipnoejmlaaDoorArr
namespace Go.Proofs.YtcmfoipnoejmlaaDoor
open Go Go.RowKit WM
set_option linter.unusedSimpArgs false
set_option linter.unusedVariables false
set_option maxRecDepth 100000
theorem and255 (a : Int) : byteOf (IntKind.i64.wrap ((BitVec.ofInt IntKind.i64.bits a &&& BitVec.ofInt IntKind.i64.bits 255).toNat : Int)) = byteOf a := by
  have h1 : (BitVec.ofInt IntKind.i64.bits a &&& BitVec.ofInt IntKind.i64.bits 255).toNat = (a % 18446744073709551616).toNat % 256 := by
    show (BitVec.ofInt 64 a &&& BitVec.ofInt 64 255).toNat = _
    rw [BitVec.toNat_and, show (BitVec.ofInt 64 255).toNat = 2 ^ 8 - 1 from rfl, Nat.and_two_pow_sub_one_eq_mod, BitVec.toNat_ofInt]
    rfl
  rw [h1]
  have h2 : IntKind.i64.wrap (((a % 18446744073709551616).toNat % 256 : Nat) : Int) = (((a % 18446744073709551616).toNat % 256 : Nat) : Int) := inK_i64 (by omega)
  rw [h2]
  unfold byteOf
  congr 2
  omega
theorem eqgD : Tryd.prog.eqGuardType Tryd.prog.depth 44 = false := by kernel_rfl
theorem infU8 : ∃ i, Tryd.prog.info? 5 = some i ∧ i.size = 1 := by
  have h : (Tryd.prog.info? 5).map (·.size) = some 1 := by kernel_rfl
  cases hi : Tryd.prog.info? 5 with
  | none => rw [hi] at h; simp at h
  | some i => rw [hi] at h; exact ⟨i, rfl, by simpa using h⟩
set_option maxHeartbeats 8000000 in
theorem of_law (a : Int) (x : Option Addr) (len cap : Nat) (ss : List ByteArray) (n : Nat) (g : Nat → Fam) (hs : StrArg g n x len cap ss) (hG : 1 < n) (hG0 : 0 < n) (hk : rowOf (g 1).rows (1 * 1024) = some kcells) (hk0 : rowOf (g 0).rows (0 * 1024) = some kcells) :
    ∃ v s2, callR Tryd.prog (EE axH) 7 [.int .i64 a, .slice x len cap] (St n g 0 [] []) = some (v, s2) ∧ v = .bool true := by
  have hax : axH 7 = none := axH_plain _ (by decide)
  have SAN : callR Tryd.prog (EE axH) 16 [] (St n g 0 [] []) = some (.bool true, St n g 0 (ins 0 [] 1) []) := sane_run _ hk
  have hkw : rowOf (g 1).rows (1 * 1024) = some (wvs KW) := by rw [hk, kcells_eq]
  have hkw0 : rowOf (g 0).rows (0 * 1024) = some (wvs KW) := by rw [hk0, kcells_eq]
  obtain ⟨fw, rdf, ef, hfew⟩ := few_run axH axH_plain x len cap ss n g 0 (ins 0 [] 1) [] hs
  have hsl := hs.1
  refine callR_ex (fn := Tryd.f7) 31 hax (fn7 axH) rfl Tryd.ntmps7 (by simp) ?_
  simp (disch := omega) only [ofArgs_cons, ofArgs_nil, Nat.reduceAdd]
  repeat apply W.seq
  apply W.region
  · simp (disch := first | omega | (simp (disch := omega) [ev_tmp, ev_const, get_of, upd_same, upd_ne, Tryd.underlying3, Tryd.underlying9, Tryd.underlying4, Tryd.underlying5]; done) | (apply inK_i64; omega) | (apply inK_u64; omega)) only [op_len, cond_true, cond_false, pick_on, stepC_if, goC_true, goC_false, guard_tt, guard_tf, guard_ft, guard_ff, slot_zero, slot_succ, put_some, runC_cons, runC_nil, stepC_free, dstC_dst, dstC_none, thenC_some, cop_assign, cop_move, cop_conv, cop_bin, cop_un, cop_pick, cop_index, cop_indexAddr, cop_load, cop_store, cop_alloc, cop_box, cop_build, cop_slice, cop_s2a, cop_field, cop_fieldAddr, cop_extract, cop_nilCheck, cop_call, cop_builtin, cop_buildSlice, ev_tmp, ev_const, ev_global, ev_func, put_of, get_of, upd_same, upd_ne, List.toList_toArray, List.map_cons, List.map_nil, some_map, none_map, ti3, ti4]
    with_reducible rfl
  simp only [onN, onB]
  repeat apply W.seq
  apply W.region
  · simp (disch := first | omega | (simp (disch := omega) [ev_tmp, ev_const, get_of, upd_same, upd_ne, Tryd.underlying3, Tryd.underlying9, Tryd.underlying4, Tryd.underlying5]; done) | (apply inK_i64; omega) | (apply inK_u64; omega)) only [op_len, cond_true, cond_false, pick_on, stepC_if, goC_true, goC_false, guard_tt, guard_tf, guard_ft, guard_ff, slot_zero, slot_succ, put_some, runC_cons, runC_nil, stepC_free, dstC_dst, dstC_none, thenC_some, cop_assign, cop_move, cop_conv, cop_bin, cop_un, cop_pick, cop_index, cop_indexAddr, cop_load, cop_store, cop_alloc, cop_box, cop_build, cop_slice, cop_s2a, cop_field, cop_fieldAddr, cop_extract, cop_nilCheck, cop_call, cop_builtin, cop_buildSlice, ev_tmp, ev_const, ev_global, ev_func, put_of, get_of, upd_same, upd_ne, List.toList_toArray, List.map_cons, List.map_nil, some_map, none_map, ti3, ti4, SAN]
    with_reducible rfl
  simp only [onN, onB]
  cases fw with
  | false =>
    repeat apply W.seq
    apply W.region
    · simp (disch := first | omega | (simp (disch := omega) [ev_tmp, ev_const, get_of, upd_same, upd_ne, Tryd.underlying3, Tryd.underlying9, Tryd.underlying4, Tryd.underlying5]; done) | (apply inK_i64; omega) | (apply inK_u64; omega)) only [op_len, cond_true, cond_false, pick_on, stepC_if, goC_true, goC_false, guard_tt, guard_tf, guard_ft, guard_ff, slot_zero, slot_succ, put_some, runC_cons, runC_nil, stepC_free, dstC_dst, dstC_none, thenC_some, cop_assign, cop_move, cop_conv, cop_bin, cop_un, cop_pick, cop_index, cop_indexAddr, cop_load, cop_store, cop_alloc, cop_box, cop_build, cop_slice, cop_s2a, cop_field, cop_fieldAddr, cop_extract, cop_nilCheck, cop_call, cop_builtin, cop_buildSlice, ev_tmp, ev_const, ev_global, ev_func, put_of, get_of, upd_same, upd_ne, List.toList_toArray, List.map_cons, List.map_nil, some_map, none_map, ti3, ti4, ef, un_not, Bool.not_false]
      with_reducible rfl
    simp only [onN, onB]
    repeat apply W.seq
    refine W.cond (b := true) ?_ ?_
    · simp (disch := omega) only [ev_tmp, get_of, upd_same, upd_ne, cond_true, decide_true, decide_false]
    simp only [cond_true, cond_false]
    repeat apply W.seq
    apply W.region
    · simp (disch := first | omega | (simp (disch := omega) [ev_tmp, ev_const, get_of, upd_same, upd_ne, Tryd.underlying3, Tryd.underlying9, Tryd.underlying4, Tryd.underlying5]; done) | (apply inK_i64; omega) | (apply inK_u64; omega)) only [op_len, cond_true, cond_false, pick_on, stepC_if, goC_true, goC_false, guard_tt, guard_tf, guard_ft, guard_ff, slot_zero, slot_succ, put_some, runC_cons, runC_nil, stepC_free, dstC_dst, dstC_none, thenC_some, cop_assign, cop_move, cop_conv, cop_bin, cop_un, cop_pick, cop_index, cop_indexAddr, cop_load, cop_store, cop_alloc, cop_box, cop_build, cop_slice, cop_s2a, cop_field, cop_fieldAddr, cop_extract, cop_nilCheck, cop_call, cop_builtin, cop_buildSlice, ev_tmp, ev_const, ev_global, ev_func, put_of, get_of, upd_same, upd_ne, List.toList_toArray, List.map_cons, List.map_nil, some_map, none_map, ti3, ti4]
      with_reducible rfl
    simp only [onN, onB]
    apply W.ret
    refine ⟨.inr rfl, [.bool true], ?_⟩
    apply Exists.intro
    apply And.intro
    · simp (disch := omega) only [resC, Tryd.results7, get_of, upd_same]
      all_goals rfl
    · rfl
  | true =>
    obtain ⟨h12, h400⟩ := hfew rfl
    clear hfew
    repeat apply W.seq
    apply W.region
    · simp (disch := first | omega | (simp (disch := omega) [ev_tmp, ev_const, get_of, upd_same, upd_ne, Tryd.underlying3, Tryd.underlying9, Tryd.underlying4, Tryd.underlying5]; done) | (apply inK_i64; omega) | (apply inK_u64; omega)) only [op_len, cond_true, cond_false, pick_on, stepC_if, goC_true, goC_false, guard_tt, guard_tf, guard_ft, guard_ff, slot_zero, slot_succ, put_some, runC_cons, runC_nil, stepC_free, dstC_dst, dstC_none, thenC_some, cop_assign, cop_move, cop_conv, cop_bin, cop_un, cop_pick, cop_index, cop_indexAddr, cop_load, cop_store, cop_alloc, cop_box, cop_build, cop_slice, cop_s2a, cop_field, cop_fieldAddr, cop_extract, cop_nilCheck, cop_call, cop_builtin, cop_buildSlice, ev_tmp, ev_const, ev_global, ev_func, put_of, get_of, upd_same, upd_ne, List.toList_toArray, List.map_cons, List.map_nil, some_map, none_map, ti3, ti4, ef, un_not, Bool.not_true]
      with_reducible rfl
    simp only [onN, onB]
    repeat apply W.seq
    refine W.cond (b := false) ?_ ?_
    · simp (disch := omega) only [ev_tmp, get_of, upd_same, upd_ne, cond_true, decide_true, decide_false]
    simp only [cond_true, cond_false]
    apply W.skip
    simp only [onN, onB]
    obtain ⟨n1, g1, rd1, e1, l1, k1⟩ := of_run axH axH_plain axH_comp2 a x len cap ss h12 h400 n g 0 rdf [] (Nat.zero_le _) hs hG hkw
    generalize hc : byteOf a = c at *
    generalize hM : inpL c ss len = M at *
    have hsh := sha_len M
    have h16 : (bvs ((sha M).take 16)).length = 16 := by rw [bvs_len, List.length_take]; omega
    have S1 := st_all (n := n1 + 1) (lim := 0) (rd := rd1) (wr := []) (tiD axH) (g := fupd g1 n1 ⟨false, [(n1 * 1024 + 0, List.replicate 16 (.int .u8 0))], none⟩) (f := n1) (u := n1 * 1024 + 0) (vs := bvs ((sha M).take 16)) (fupd_same _ _ _) h16 (by simp) (bvs_one _)
    rw [fupd_fupd] at S1
    repeat apply W.seq
    apply W.region
    · simp (disch := first | omega | (simp (disch := omega) [ev_tmp, ev_const, get_of, upd_same, upd_ne, Tryd.underlying3, Tryd.underlying9, Tryd.underlying4, Tryd.underlying5]; done) | (apply inK_i64; omega) | (apply inK_u64; omega)) only [op_len, cond_true, cond_false, pick_on, stepC_if, goC_true, goC_false, guard_tt, guard_tf, guard_ft, guard_ff, slot_zero, slot_succ, put_some, runC_cons, runC_nil, stepC_free, dstC_dst, dstC_none, thenC_some, cop_assign, cop_move, cop_conv, cop_bin, cop_un, cop_pick, cop_index, cop_indexAddr, cop_load, cop_store, cop_alloc, cop_box, cop_build, cop_slice, cop_s2a, cop_field, cop_fieldAddr, cop_extract, cop_nilCheck, cop_call, cop_builtin, cop_buildSlice, ev_tmp, ev_const, ev_global, ev_func, put_of, get_of, upd_same, upd_ne, List.toList_toArray, List.map_cons, List.map_nil, some_map, none_map, ti3, ti4, e1, alloc_st (tiD axH), cells_agg, S1]
      with_reducible rfl
    simp only [onN, onB]
    generalize hg2 : fupd g1 n1 ⟨false, [(n1 * 1024 + 0, bvs ((sha M).take 16))], none⟩ = g2
    have p1 : g2 n1 = ⟨false, [(n1 * 1024 + 0, bvs ((sha M).take 16))], none⟩ := by rw [← hg2, fupd_same]
    have p0 : ∀ i, i < n → g2 i = g i := fun i hi => by rw [← hg2, fupd_ne _ _ _ _ (by omega), k1 _ hi]
    clear hg2 S1 e1
    obtain ⟨n2, g2', rd2, e2, l2, k2⟩ := rof_run axH axH_plain a x len cap ss h12 h400 (n1 + 1) g2 (n1 + 1) [] [] (Nat.le_refl _) (hs.keep p0 (by omega)) (by omega) (by rw [p0 _ hG0]; exact hkw0)
    rw [hc, hM] at e2
    obtain ⟨n3, g3, rd3, e3, l3, k3⟩ := of_run axH axH_plain axH_comp2 (IntKind.i64.wrap ((BitVec.ofInt IntKind.i64.bits a &&& BitVec.ofInt IntKind.i64.bits 255).toNat : Int)) x len cap ss h12 h400 n2 g2' n2 [] [] (Nat.le_refl _) (hs.keep (fun i hi => by rw [k2 i (by omega)]; exact p0 i hi) (by omega)) (by omega) (by rw [k2 _ (by omega), p0 _ hG]; exact hkw)
    rw [and255, hc, hM] at e3
    have L1 := ld_all (n := n1 + 1) (lim := n1 + 1) (rd := []) (wr := []) (tiD axH) rfl (g := g2) (f := n1) (u := n1 * 1024 + 0) (cs := bvs ((sha M).take 16)) (by rw [p1]; exact rowOf_one) h16
    rw [ins_lt (show n1 < n1 + 1 by omega)] at L1
    have L2 := ld_all (n := n2) (lim := n2) (rd := []) (wr := []) (tiD axH) rfl (g := g2') (f := n1) (u := n1 * 1024 + 0) (cs := bvs ((sha M).take 16)) (by rw [k2 _ (by omega), p1]; exact rowOf_one) h16
    rw [ins_lt (show n1 < n2 by omega)] at L2
    obtain ⟨iu, hiu, hiz⟩ := infU8
    have h16b : ((sha M).take 16).length = 16 := by rw [List.length_take]; omega
    have Q := fun (s : CS) (ρ : Operand → Value) d ty pos t2 x y e g hx hy => oa_eql (Γ := EE axH) (s := s) (ρ := ρ) (d := d) (ty := ty) (pos := pos) (t2 := t2) (x := x) (y := y) (e := e) (g := g) Tryd.underlying44 Tryd.underlying5 hiu hiz eqgD h16b h16b hx hy
    have R : ((sha M).take 16 == (sha M).take 16) = true := beq_self_eq_true _
    repeat apply W.seq
    apply W.draw_ex (ms := [0, 1, 3, 3, 3, 27, 63, 127, 255, 511, 511, 1535, 511, 7679, 16383, 32767, 65535])
    · kernel_rfl
    · simp (disch := first | omega | (simp (disch := omega) [ev_tmp, ev_const, get_of, upd_same, upd_ne, Tryd.underlying3, Tryd.underlying9, Tryd.underlying4, Tryd.underlying5]; done) | (apply inK_i64; omega) | (apply inK_u64; omega)) only [op_len, cond_true, cond_false, pick_on, stepC_if, goC_true, goC_false, guard_tt, guard_tf, guard_ft, guard_ff, slot_zero, slot_succ, put_some, runC_cons, runC_nil, stepC_free, dstC_dst, dstC_none, thenC_some, cop_assign, cop_move, cop_conv, cop_bin, cop_un, cop_pick, cop_index, cop_indexAddr, cop_load, cop_store, cop_alloc, cop_box, cop_build, cop_slice, cop_s2a, cop_field, cop_fieldAddr, cop_extract, cop_nilCheck, cop_call, cop_builtin, cop_buildSlice, ev_tmp, ev_const, ev_global, ev_func, put_of, get_of, upd_same, upd_ne, List.toList_toArray, List.map_cons, List.map_nil, some_map, none_map, ti3, ti4, drawC_cons, drawC_nil, inner_st, thenD_some, consLg_some, insAll_nil, insAll_cons, L1, L2, e2, e3, Q, R, ow_and]
      with_reducible rfl
    · simp (disch := first | decide | (apply clash_gen <;> intro f hf <;> first | omega | (simp at hf; done) | (simp; done) | (simp at hf; omega) | (simp at hf ⊢; omega))) only [calmAll_cons, calmAll_nil, calmAll_y0, calmOne_nil, calmOne_set, calmOne_ok, List.nil_append, List.cons_append, List.length_cons, List.length_nil, Nat.reduceAdd, nth_zero, nth_succ, Bool.and_self, Bool.and_true, Bool.true_and]
    simp only [onN, onB]
    apply W.ret
    refine ⟨.inr rfl, [.bool true], ?_⟩
    apply Exists.intro
    apply And.intro
    · simp (disch := omega) only [resC, Tryd.results7, get_of, upd_same]
      all_goals rfl
    · rfl
end Go.Proofs.YtcmfoipnoejmlaaDoor
