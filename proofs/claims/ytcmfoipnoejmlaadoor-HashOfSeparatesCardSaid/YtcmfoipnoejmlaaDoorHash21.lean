/- hash.Of in the plain machine. -/
import Derived.Test.YtcmfoipnoejmlaaDoorHash20
namespace Go.Proofs.YtcmfoipnoejmlaaDoor
open Go Go.RowKit WM
set_option linter.unusedSimpArgs false
set_option linter.unusedVariables false
set_option maxRecDepth 100000
set_option maxHeartbeats 4000000 in
theorem of_run (ax : Axs) (hp : Plain ax) (hC : ax 53 = some hComp) (tag : Int) (x : Option Addr) (len cap : Nat) (ss : List ByteArray) (h12 : len ≤ 12) (h400 : ∀ i, i < len → (ss.getD i nilB).size ≤ 400) (n : Nat) (g : Nat → Fam) (lim : Nat) (rd wr : List Nat) (hl : lim ≤ n) (hs : StrArg g n x len cap ss) (hG : 1 < n) (hk : rowOf (g 1).rows (1 * 1024) = some (wvs KW)) :
    ∃ n' g' rd', callR Tryd.prog (EE ax) 27 [.int .i64 tag, .slice x len cap] (St n g lim rd wr) = some (.agg (bvs ((sha (inpL (byteOf tag) ss len)).take 16)).toArray, St n' g' lim rd' wr) ∧ n ≤ n' ∧ (∀ i, i < n → g' i = g i) := by
  have hax : ax 27 = none := hp _ (by decide)
  have hsl := hs.1
  suffices hh : ∃ v s2, callR Tryd.prog (EE ax) 27 [.int .i64 tag, .slice x len cap] (St n g lim rd wr) = some (v, s2) ∧ v = .agg (bvs ((sha (inpL (byteOf tag) ss len)).take 16)).toArray ∧ ∃ n' g' rd', s2 = St n' g' lim rd' wr ∧ n ≤ n' ∧ (∀ i, i < n → g' i = g i) by
    obtain ⟨v, s2, h1, rfl, n', g', rd', rfl, h2⟩ := hh
    exact ⟨n', g', rd', h1, h2⟩
  refine callR_ex (fn := Tryd.f27) 32 hax (fn27 ax) rfl Tryd.ntmps27 (by simp) ?_
  simp (disch := omega) only [ofArgs_cons, ofArgs_nil, Nat.reduceAdd]
  generalize hc : byteOf tag = c at *
  repeat apply W.seq
  apply W.region
  · simp (disch := first | omega | (simp (disch := omega) [ev_tmp, ev_const, get_of, upd_same, upd_ne, Tryd.underlying3, Tryd.underlying83, Tryd.underlying5, Tryd.underlying32, Tryd.underlying9, Tryd.underlying22]; done) | (apply inK_i64; omega) | (apply inK_u64; omega)) only [op_len, cond_true, cond_false, pick_on, stepC_if, goC_true, goC_false, guard_tt, guard_tf, guard_ft, guard_ff, slot_zero, slot_succ, put_some, runC_cons, runC_nil, stepC_free, dstC_dst, dstC_none, thenC_some, cop_assign, cop_move, cop_conv, cop_bin, cop_un, cop_pick, cop_index, cop_indexAddr, cop_load, cop_store, cop_alloc, cop_box, cop_build, cop_slice, cop_s2a, cop_field, cop_fieldAddr, cop_extract, cop_nilCheck, cop_call, cop_builtin, cop_buildSlice, ev_tmp, ev_const, ev_global, ev_func, put_of, get_of, upd_same, upd_ne, List.toList_toArray, List.map_cons, List.map_nil, some_map, none_map, ti3, ti83, ti5, ti32, alloc_st (tiD ax)]
    with_reducible rfl
  simp only [onN, onB]
  generalize hg0 : fupd g n ⟨false, [(n * 1024 + 0, List.replicate 16 (.int .u8 0))], none⟩ = g0
  have p1 : g0 n = ⟨false, [(n * 1024 + 0, List.replicate 16 (vb 0))], none⟩ := by rw [← hg0, fupd_same]; rfl
  have p0 : ∀ i, i < n → g0 i = g i := fun i hi => by rw [← hg0, fupd_ne _ _ _ _ (by omega)]
  clear hg0
  obtain ⟨n1, g1, rd1, e1, a1, a2, a3⟩ := begin_run ax hp (n + 1) g0 (n + 1) [] [] (Nat.le_refl _)
  generalize hgB : fupd g1 n1 ⟨false, [(n1 * 1024 + 0, [vb c])], none⟩ = gB
  have F1 := first_slq (n := n1 + 1) (lim := n1 + 1) (rd := []) (wr := []) (g := gB) (f := n1) (u := n1 * 1024 + 0) (off := 0) (len := 1) (cap := 1) (e := 1) (k := 1) (cs := [vb c]) (by rw [← hgB, fupd_same]; exact rowOf_one) (by simp) (by omega)
  rw [ins_lt (show n1 < n1 + 1 by omega), show ([vb c].drop 0).take (1 * 1) = bvs [c] from rfl] at F1
  have CV := fun ρ o => conv_str (P := Tryd.prog) (Γ := EE ax) (ρ := ρ) (o := o) (ti22 ax) (ti9 ax) (ti5 ax) F1
  have hb0 : ∀ i, i < n → gB i = g i := fun i hi => by rw [← hgB, fupd_ne _ _ _ _ (by omega), a2 _ (by omega)]; exact p0 i hi
  have hbn : gB n = ⟨false, [(n * 1024 + 0, List.replicate 16 (vb 0))], none⟩ := by rw [← hgB, fupd_ne _ _ _ _ (by omega), a2 _ (by omega)]; exact p1
  obtain ⟨st2, bl2, hR2, f5, g2, rd2, e2, b1, b2, b3⟩ := add_run ax hp hC [] IVW (List.replicate 64 0) (Repr.start _ rfl) ⟨[c].toArray⟩ (by rw [mk_size]; simp) (n1 + 1) gB (n1 + 1) [] [] (Nat.le_refl _) (by omega) (by rw [hb0 _ hG]; exact hk)
  rw [mk_list, List.nil_append] at hR2 e2
  rw [List.length_nil] at e2
  have m8 := hR2.len
  have m64 := hR2.size
  have S1 := st_allq (n := f5 + 1) (tiS_at ax) (g := fupd g2 f5 ⟨false, [(f5 * 1024 + 0, cellsS (List.replicate 8 0) (List.replicate 64 0) 0)], none⟩) (f := f5) (u := f5 * 1024 + 0) (vs := cellsS st2 bl2 [c].length) (fupd_same _ _ _) (cellsS_len m8 m64) (cellsS_len rfl rfl) (cellsS_one _ _ _) (by omega)
  rw [fupd_fupd] at S1
  unfold strV at e1 e2
  have I5 := fun l => ins_ge (m := lim) (f := f5) l (by omega)
  repeat apply W.seq
  apply W.draw_ex (ms := [0, 0, 2, 6, 14, 31, 0, 127])
  · kernel_rfl
  · simp (disch := first | omega | (simp (disch := omega) [ev_tmp, ev_const, get_of, upd_same, upd_ne, vb_cells, Tryd.underlying3, Tryd.underlying83, Tryd.underlying5, Tryd.underlying32, Tryd.underlying9, Tryd.underlying22]; done) | (apply inK_i64; omega) | (apply inK_u64; omega)) only [op_len, cond_true, cond_false, pick_on, stepC_if, goC_true, goC_false, guard_tt, guard_tf, guard_ft, guard_ff, slot_zero, slot_succ, put_some, runC_cons, runC_nil, stepC_free, dstC_dst, dstC_none, thenC_some, cop_assign, cop_move, cop_conv, cop_bin, cop_un, cop_pick, cop_index, cop_indexAddr, cop_load, cop_store, cop_alloc, cop_box, cop_build, cop_slice, cop_s2a, cop_field, cop_fieldAddr, cop_extract, cop_nilCheck, cop_call, cop_builtin, cop_buildSlice, ev_tmp, ev_const, ev_global, ev_func, put_of, get_of, upd_same, upd_ne, List.toList_toArray, List.map_cons, List.map_nil, some_map, none_map, ti3, ti83, ti5, ti32, drawC_cons, drawC_nil, inner_st, thenD_some, consLg_some, insAll_nil, insAll_cons, e1, conv_ib2 (ti3 ax) (ti5 ax), hc, build_one (ti22 ax) (ti5 ax) rfl rfl, hgB, CV, e2, alloc_st (tiS_at ax), cells_agg, S1, I5]
    with_reducible rfl
  · simp (disch := first | decide | (apply clash_gen <;> intro f hf <;> first | omega | (simp at hf; done) | (simp; done) | (simp at hf; omega) | (simp at hf ⊢; omega))) only [calmAll_cons, calmAll_nil, calmAll_y0, calmOne_nil, calmOne_set, calmOne_ok, List.nil_append, List.cons_append, List.length_cons, List.length_nil, Nat.reduceAdd, nth_zero, nth_succ, Bool.and_self, Bool.and_true, Bool.true_and]
  simp only [onN, onB]
  generalize hg3 : fupd g2 f5 ⟨false, [(f5 * 1024 + 0, cellsS st2 bl2 [c].length)], none⟩ = g3
  have q5 : g3 f5 = ⟨false, [(f5 * 1024 + 0, cellsS st2 bl2 (inpL c ss 0).length)], none⟩ := by rw [← hg3, fupd_same]; rfl
  have q1 : g3 n = ⟨false, [(n * 1024 + 0, List.replicate 16 (vb 0))], none⟩ := by rw [← hg3, fupd_ne _ _ _ _ (by omega), b2 _ (by omega)]; exact hbn
  have q0 : ∀ i, i < n → g3 i = g i := fun i hi => by rw [← hg3, fupd_ne _ _ _ _ (by omega), b2 _ (by omega)]; exact hb0 i hi
  clear hg3 S1 e1 e2 CV F1 hbn hb0 hgB p1 p0 a2 b2
  apply W.seq
  refine W.cut (fun fr s => ∃ (h : Nat → Value) (N : Nat) (g' : Nat → Fam) (rd' : List Nat), fr = Fr.of 32 h ∧ s = St N g' lim rd' wr ∧ f5 < N ∧ h 4 = .pointer (some (mkA n (n * 1024 + 0) 0)) ∧ h 5 = .pointer (some (mkA f5 (f5 * 1024 + 0) 0)) ∧ g' n = ⟨false, [(n * 1024 + 0, List.replicate 16 (vb 0))], none⟩ ∧ (∀ i, i < n → g' i = g i) ∧ ∃ st bl, Repr (inpL c ss len) st bl ∧ g' f5 = ⟨false, [(f5 * 1024 + 0, cellsS st bl (inpL c ss len).length)], none⟩) ?_ ?_
  · skip
    repeat apply W.seq
    apply W.region
    · simp (disch := first | omega | (simp (disch := omega) [ev_tmp, ev_const, get_of, upd_same, upd_ne, Tryd.underlying3, Tryd.underlying83, Tryd.underlying5, Tryd.underlying32, Tryd.underlying9, Tryd.underlying22]; done) | (apply inK_i64; omega) | (apply inK_u64; omega)) only [op_len, cond_true, cond_false, pick_on, stepC_if, goC_true, goC_false, guard_tt, guard_tf, guard_ft, guard_ff, slot_zero, slot_succ, put_some, runC_cons, runC_nil, stepC_free, dstC_dst, dstC_none, thenC_some, cop_assign, cop_move, cop_conv, cop_bin, cop_un, cop_pick, cop_index, cop_indexAddr, cop_load, cop_store, cop_alloc, cop_box, cop_build, cop_slice, cop_s2a, cop_field, cop_fieldAddr, cop_extract, cop_nilCheck, cop_call, cop_builtin, cop_buildSlice, ev_tmp, ev_const, ev_global, ev_func, put_of, get_of, upd_same, upd_ne, List.toList_toArray, List.map_cons, List.map_nil, some_map, none_map, ti3, ti83, ti5, ti32, len_sl (ti27 ax)]
      with_reducible rfl
    simp only [onN, onB]
    repeat apply W.seq
    apply W.block
    refine W.loop (fun m fr s => ∃ (i : Nat) (h : Nat → Value) (N : Nat) (g' : Nat → Fam) (rd' : List Nat), i ≤ len ∧ m = len - i ∧ fr = Fr.of 32 h ∧ s = St N g' lim rd' wr ∧ f5 < N ∧ h 4 = .pointer (some (mkA n (n * 1024 + 0) 0)) ∧ h 5 = .pointer (some (mkA f5 (f5 * 1024 + 0) 0)) ∧ h 15 = .slice x len cap ∧ h 16 = .int .i64 (len : Int) ∧ h 17 = .int .i64 (i : Int) ∧ g' n = ⟨false, [(n * 1024 + 0, List.replicate 16 (vb 0))], none⟩ ∧ (∀ i, i < n → g' i = g i) ∧ ∃ st bl, Repr (inpL c ss i) st bl ∧ g' f5 = ⟨false, [(f5 * 1024 + 0, cellsS st bl (inpL c ss i).length)], none⟩) ?_ (len - 0) _ _ ⟨0, _, f5 + 1, g3, _, by omega, rfl, rfl, rfl, by omega, ?_, ?_, ?_, ?_, ?_, q1, q0, st2, bl2, hR2, q5⟩
    case refine_2 => simp (disch := omega) only [upd_same, upd_ne]
    case refine_3 => simp (disch := omega) only [upd_same, upd_ne]
    case refine_4 => simp (disch := omega) only [upd_same, upd_ne]
    case refine_5 => simp (disch := omega) only [upd_same, upd_ne]
    case refine_6 => simp (disch := omega) only [upd_same, upd_ne]; rfl
    clear q5 q1 q0
    rintro m fr s ⟨i, h, N, g', rd', hi, rfl, rfl, rfl, hN, h4, h5, h15, h16, h17, q1, q0, st, bl, hR, q5⟩
    repeat apply W.seq
    apply W.region
    · simp (disch := first | omega | (simp (disch := omega) [ev_tmp, ev_const, get_of, upd_same, upd_ne, h16, h17, Tryd.underlying3, Tryd.underlying83, Tryd.underlying5, Tryd.underlying32, Tryd.underlying9, Tryd.underlying22]; done) | (apply inK_i64; omega) | (apply inK_u64; omega)) only [op_len, cond_true, cond_false, pick_on, stepC_if, goC_true, goC_false, guard_tt, guard_tf, guard_ft, guard_ff, slot_zero, slot_succ, put_some, runC_cons, runC_nil, stepC_free, dstC_dst, dstC_none, thenC_some, cop_assign, cop_move, cop_conv, cop_bin, cop_un, cop_pick, cop_index, cop_indexAddr, cop_load, cop_store, cop_alloc, cop_box, cop_build, cop_slice, cop_s2a, cop_field, cop_fieldAddr, cop_extract, cop_nilCheck, cop_call, cop_builtin, cop_buildSlice, ev_tmp, ev_const, ev_global, ev_func, put_of, get_of, upd_same, upd_ne, List.toList_toArray, List.map_cons, List.map_nil, some_map, none_map, ti3, ti83, ti5, ti32, h16, h17, oi_lss]
      with_reducible rfl
    simp only [onN, onB]
    by_cases hlt : (i : Int) < (len : Int)
    case neg =>
      repeat apply W.seq
      refine W.cond (b := false) ?_ ?_
      · simp (disch := omega) only [ev_tmp, get_of, upd_same, upd_ne, hlt, decide_true, decide_false]
      simp only [cond_true, cond_false]
      apply W.exit
      simp only [onN, onB, Nat.beq_refl, cond_true]
      have hie : i = len := by omega
      subst hie
      exact ⟨by first | rfl | trivial, _, N, g', rd', rfl, rfl, hN, by simp (disch := omega) only [upd_same, upd_ne, h4], by simp (disch := omega) only [upd_same, upd_ne, h5], q1, q0, st, bl, hR, q5⟩
    repeat apply W.seq
    refine W.cond (b := true) ?_ ?_
    · simp (disch := omega) only [ev_tmp, get_of, upd_same, upd_ne, hlt, decide_true, decide_false]
    simp only [cond_true, cond_false]
    apply W.skip
    simp only [onN, onB]
    have hil : i < len := by omega
    obtain ⟨pp, pf, hpf, A1, A2⟩ := hs.at (Γ := EE ax) (i := i) hil (ti27 ax) (ti9 ax)
    have A3 := A2 N g' lim rd' wr q0
    have hsi := h400 i hil
    have hel := encS_len _ hsi
    have hil2 := inpL_len c ss (fun i hi => h400 i (by omega)) i (by omega)
    repeat apply W.seq
    apply W.block
    repeat apply W.seq
    apply W.region
    · simp (disch := first | omega | (simp (disch := omega) [ev_tmp, ev_const, get_of, upd_same, upd_ne, h15, h17, Tryd.underlying3, Tryd.underlying83, Tryd.underlying5, Tryd.underlying32, Tryd.underlying9, Tryd.underlying22]; done) | (apply inK_i64; omega) | (apply inK_u64; omega)) only [op_len, cond_true, cond_false, pick_on, stepC_if, goC_true, goC_false, guard_tt, guard_tf, guard_ft, guard_ff, slot_zero, slot_succ, put_some, runC_cons, runC_nil, stepC_free, dstC_dst, dstC_none, thenC_some, cop_assign, cop_move, cop_conv, cop_bin, cop_un, cop_pick, cop_index, cop_indexAddr, cop_load, cop_store, cop_alloc, cop_box, cop_build, cop_slice, cop_s2a, cop_field, cop_fieldAddr, cop_extract, cop_nilCheck, cop_call, cop_builtin, cop_buildSlice, ev_tmp, ev_const, ev_global, ev_func, put_of, get_of, upd_same, upd_ne, List.toList_toArray, List.map_cons, List.map_nil, some_map, none_map, ti3, ti83, ti5, ti32, h15, h17, natOf_nat, A1, A3]
      with_reducible rfl
    simp only [onN, onB]
    have l8 := hR.len
    have l64 := hR.size
    have L1 := ld_all (n := N) (lim := N) (rd := []) (wr := []) (tiS_at ax) tiS_agg (g := g') (f := f5) (u := f5 * 1024 + 0) (cs := cellsS st bl (inpL c ss i).length) (by rw [q5]; exact rowOf_one) (cellsS_len l8 l64)
    rw [ins_lt (show f5 < N by omega)] at L1
    obtain ⟨a2, n2, g2, e2, o2, l2, k2⟩ := wbytes_run ax hp (ss.getD i nilB) (by omega) N g' N [] [] (Nat.le_refl _)
    obtain ⟨rdc, ec, -⟩ := o2.barg.first (N := n2) (g' := g2) (lim := n2) (rd := []) (wr := []) (cap := (encS (ss.getD i nilB)).length) (fun _ _ => rfl)
    have CV := fun ρ o => conv_str (P := Tryd.prog) (Γ := EE ax) (ρ := ρ) (o := o) (ti22 ax) (ti9 ax) (ti5 ax) ec
    obtain ⟨st3, bl3, hR3, n3, g3', rd3, e3, l3, k3, -⟩ := add_run ax hp hC (inpL c ss i) st bl hR ⟨(encS (ss.getD i nilB)).toArray⟩ (by rw [mk_size]; omega) n2 g2 n2 [] [] (Nat.le_refl _) (by omega) (by rw [k2 _ (by omega), q0 _ hG]; exact hk)
    rw [mk_list] at hR3 e3
    unfold strV at e3
    have S1 := st_allq (n := n3) (tiS_at ax) (g := g3') (f := f5) (u := f5 * 1024 + 0) (vs := cellsS st3 bl3 (inpL c ss i ++ encS (ss.getD i nilB)).length) (cs := cellsS st bl (inpL c ss i).length) (es := none) (by rw [k3 _ (by omega), k2 _ (by omega)]; exact q5) (cellsS_len hR3.len hR3.size) (cellsS_len l8 l64) (cellsS_one _ _ _) (by omega)
    repeat apply W.seq
    apply W.draw_ex (ms := [0, 0, 2, 6, 15, 31])
    · kernel_rfl
    · simp (disch := first | omega | (simp (disch := omega) [ev_tmp, ev_const, get_of, upd_same, upd_ne, h5, Tryd.underlying3, Tryd.underlying83, Tryd.underlying5, Tryd.underlying32, Tryd.underlying9, Tryd.underlying22]; done) | (apply inK_i64; omega) | (apply inK_u64; omega)) only [op_len, cond_true, cond_false, pick_on, stepC_if, goC_true, goC_false, guard_tt, guard_tf, guard_ft, guard_ff, slot_zero, slot_succ, put_some, runC_cons, runC_nil, stepC_free, dstC_dst, dstC_none, thenC_some, cop_assign, cop_move, cop_conv, cop_bin, cop_un, cop_pick, cop_index, cop_indexAddr, cop_load, cop_store, cop_alloc, cop_box, cop_build, cop_slice, cop_s2a, cop_field, cop_fieldAddr, cop_extract, cop_nilCheck, cop_call, cop_builtin, cop_buildSlice, ev_tmp, ev_const, ev_global, ev_func, put_of, get_of, upd_same, upd_ne, List.toList_toArray, List.map_cons, List.map_nil, some_map, none_map, ti3, ti83, ti5, ti32, drawC_cons, drawC_nil, inner_st, thenD_some, consLg_some, insAll_nil, insAll_cons, h5, L1, e2, CV, e3, cells_agg, S1, I5]
      with_reducible rfl
    · simp (disch := first | decide | (apply clash_gen <;> intro f hf <;> first | omega | (simp at hf; done) | (simp; done) | (simp at hf; omega) | (simp at hf ⊢; omega))) only [calmAll_cons, calmAll_nil, calmAll_y0, calmOne_nil, calmOne_set, calmOne_ok, List.nil_append, List.cons_append, List.length_cons, List.length_nil, Nat.reduceAdd, nth_zero, nth_succ, Bool.and_self, Bool.and_true, Bool.true_and]
    simp only [onN, onB]
    repeat apply W.seq
    apply W.region
    · simp (disch := first | omega | (simp (disch := omega) [ev_tmp, ev_const, get_of, upd_same, upd_ne, h17, Tryd.underlying3, Tryd.underlying83, Tryd.underlying5, Tryd.underlying32, Tryd.underlying9, Tryd.underlying22]; done) | (apply inK_i64; omega) | (apply inK_u64; omega)) only [op_len, cond_true, cond_false, pick_on, stepC_if, goC_true, goC_false, guard_tt, guard_tf, guard_ft, guard_ff, slot_zero, slot_succ, put_some, runC_cons, runC_nil, stepC_free, dstC_dst, dstC_none, thenC_some, cop_assign, cop_move, cop_conv, cop_bin, cop_un, cop_pick, cop_index, cop_indexAddr, cop_load, cop_store, cop_alloc, cop_box, cop_build, cop_slice, cop_s2a, cop_field, cop_fieldAddr, cop_extract, cop_nilCheck, cop_call, cop_builtin, cop_buildSlice, ev_tmp, ev_const, ev_global, ev_func, put_of, get_of, upd_same, upd_ne, List.toList_toArray, List.map_cons, List.map_nil, some_map, none_map, ti3, ti83, ti5, ti32, oi_add, h17]
      with_reducible rfl
    simp only [onN, onB]
    refine ⟨len - (i + 1), by omega, i + 1, _, n3, _, _, by omega, rfl, rfl, rfl, by omega, ?_, ?_, ?_, ?_, ?_, ?_, fun j hj => by rw [fupd_ne _ _ _ _ (by omega), k3 _ (by omega), k2 _ (by omega)]; exact q0 j hj, st3, bl3, hR3, ?_⟩
    · simp (disch := omega) only [upd_same, upd_ne, h4]
    · simp (disch := omega) only [upd_same, upd_ne, h5]
    · simp (disch := omega) only [upd_same, upd_ne, h15]
    · simp (disch := omega) only [upd_same, upd_ne, h16]
    · simp (disch := omega) only [upd_same, upd_ne]; rfl
    · rw [fupd_ne _ _ _ _ (by omega), k3 _ (by omega), k2 _ (by omega)]; exact q1
    · rw [fupd_same]; rfl
  clear q5 q1 q0
  rintro fr s ⟨h, N, g', rd', rfl, rfl, hN, h4, h5, q1, q0, st, bl, hR, q5⟩
  have hil2 := inpL_len c ss (fun i hi => h400 i (by omega)) len (by omega)
  generalize inpL c ss len = M at *
  have L1 := ld_all (n := N) (lim := lim) (rd := rd') (wr := wr) (tiS_at ax) tiS_agg (g := g') (f := f5) (u := f5 * 1024 + 0) (cs := cellsS st bl M.length) (by rw [q5]; exact rowOf_one) (cellsS_len hR.len hR.size)
  rw [I5] at L1
  obtain ⟨n4, g4, rd4, e4, l4, k4, -⟩ := ssum_run ax hp hC M st bl hR (by omega) N g' lim rd' wr (by omega) (by omega) (by rw [q0 _ hG]; exact hk)
  unfold strV at e4
  have hsh := sha_len M
  have S1 := st_all (n := n4 + 1) (lim := lim) (rd := rd4) (wr := wr) (ti24 ax) (g := fupd g4 n4 ⟨false, [(n4 * 1024 + 0, List.replicate 32 (.int .u8 0))], none⟩) (f := n4) (u := n4 * 1024 + 0) (vs := bvs (sha M)) (fupd_same _ _ _) (by rw [bvs_len, hsh]) (by simp) (bvs_one _)
  rw [fupd_fupd, ins_ge (f := n4) _ (by omega)] at S1
  repeat apply W.seq
  apply W.region
  · simp (disch := first | omega | (simp (disch := omega) [ev_tmp, ev_const, get_of, upd_same, upd_ne, h5, Tryd.underlying3, Tryd.underlying83, Tryd.underlying5, Tryd.underlying32, Tryd.underlying9, Tryd.underlying22]; done) | (apply inK_i64; omega) | (apply inK_u64; omega)) only [op_len, cond_true, cond_false, pick_on, stepC_if, goC_true, goC_false, guard_tt, guard_tf, guard_ft, guard_ff, slot_zero, slot_succ, put_some, runC_cons, runC_nil, stepC_free, dstC_dst, dstC_none, thenC_some, cop_assign, cop_move, cop_conv, cop_bin, cop_un, cop_pick, cop_index, cop_indexAddr, cop_load, cop_store, cop_alloc, cop_box, cop_build, cop_slice, cop_s2a, cop_field, cop_fieldAddr, cop_extract, cop_nilCheck, cop_call, cop_builtin, cop_buildSlice, ev_tmp, ev_const, ev_global, ev_func, put_of, get_of, upd_same, upd_ne, List.toList_toArray, List.map_cons, List.map_nil, some_map, none_map, ti3, ti83, ti5, ti32, h5, L1, e4, alloc_st (ti24 ax), cells_agg, S1]
    with_reducible rfl
  simp only [onN, onB]
  generalize hg5 : fupd g4 n4 ⟨false, [(n4 * 1024 + 0, bvs (sha M))], none⟩ = g5
  have v1 : g5 n = ⟨false, [(n * 1024 + 0, List.replicate 16 (vb 0))], none⟩ := by rw [← hg5, fupd_ne _ _ _ _ (by omega), k4 _ (by omega)]; exact q1
  have v8 : g5 n4 = ⟨false, [(n4 * 1024 + 0, bvs (sha M))], none⟩ := by rw [← hg5, fupd_same]
  have v0 : ∀ i, i < n → g5 i = g i := fun i hi => by rw [← hg5, fupd_ne _ _ _ _ (by omega), k4 _ (by omega)]; exact q0 i hi
  clear hg5 S1 L1
  have bd := bounds_h (len := 32) (cap := 32) (natOf_lit .i64 16) (by omega)
  have L2 := ld_part (n := n4 + 1) (lim := lim) (rd := rd4) (wr := wr) (tiD ax) rfl (g := g5) (f := n4) (u := n4 * 1024 + 0) (off := 0 + 0 * 1) (cs := bvs (sha M)) (by rw [v8]; exact rowOf_one) (by rw [bvs_len, hsh]; omega)
  rw [ins_ge (f := n4) _ (by omega), show ((bvs (sha M)).drop (0 + 0 * 1)).take 16 = bvs ((sha M).take 16) by rw [show (bvs (sha M)).drop (0 + 0 * 1) = bvs (sha M) from rfl, bvs_take]] at L2
  have h16l : (bvs ((sha M).take 16)).length = 16 := by rw [bvs_len, List.length_take]; omega
  have S2 := st_all (n := n4 + 1) (lim := lim) (rd := rd4) (wr := wr) (tiD ax) (f := n) (u := n * 1024 + 0) (vs := bvs ((sha M).take 16)) v1 h16l (by simp) (bvs_one _)
  rw [ins_ge (f := n) _ (by omega)] at S2
  repeat apply W.seq
  apply W.region
  · simp (disch := first | omega | (simp (disch := omega) [ev_tmp, ev_const, get_of, upd_same, upd_ne, h4, Tryd.underlying3, Tryd.underlying83, Tryd.underlying5, Tryd.underlying32, Tryd.underlying9, Tryd.underlying22]; done) | (apply inK_i64; omega) | (apply inK_u64; omega)) only [op_len, cond_true, cond_false, pick_on, stepC_if, goC_true, goC_false, guard_tt, guard_tf, guard_ft, guard_ff, slot_zero, slot_succ, put_some, runC_cons, runC_nil, stepC_free, dstC_dst, dstC_none, thenC_some, cop_assign, cop_move, cop_conv, cop_bin, cop_un, cop_pick, cop_index, cop_indexAddr, cop_load, cop_store, cop_alloc, cop_box, cop_build, cop_slice, cop_s2a, cop_field, cop_fieldAddr, cop_extract, cop_nilCheck, cop_call, cop_builtin, cop_buildSlice, ev_tmp, ev_const, ev_global, ev_func, put_of, get_of, upd_same, upd_ne, List.toList_toArray, List.map_cons, List.map_nil, some_map, none_map, ti3, ti83, ti5, ti32, h4, slice_arr1 (ti24 ax) (ti5 ax) (by omega) bd (show (n4 * 1024 + 0) % 1024 = 0 by omega), s2a_eq (tiD ax) (show 0 < 16 by omega) (show 16 ≤ 16 - 0 by omega), L2, cells_agg, S2]
    with_reducible rfl
  simp only [onN, onB]
  apply W.ret
  refine ⟨.inr rfl, [.agg (bvs ((sha M).take 16)).toArray], St (n4 + 1) (fupd g5 n ⟨false, [(n * 1024 + 0, bvs ((sha M).take 16))], none⟩) lim rd4 wr, ?_, rfl, n4 + 1, _, rd4, rfl, by omega, fun i hi => by rw [fupd_ne _ _ _ _ (by omega)]; exact v0 i hi⟩
  have L3 := ld_all (n := n4 + 1) (lim := lim) (rd := rd4) (wr := wr) (tiD ax) rfl (g := fupd g5 n ⟨false, [(n * 1024 + 0, bvs ((sha M).take 16))], none⟩) (f := n) (u := n * 1024 + 0) (cs := bvs ((sha M).take 16)) (by rw [fupd_same]; exact rowOf_one) h16l
  rw [ins_ge (f := n) _ (by omega)] at L3
  simp (disch := first | omega | (simp (disch := omega) only [get_of, upd_same, upd_ne, h4]; done)) only [resC_cell (ad := mkA n (n * 1024 + 0) 0), resC_nil, Tryd.results27, L3, resThen_some, resAdd_some]
end Go.Proofs.YtcmfoipnoejmlaaDoor
