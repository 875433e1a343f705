/- The law HashMacMatchesSpec in the plain machine; both tables out of a law's condition. -/
import Derived.Test.YtcmfoipnoejmlaaDoorHsD
namespace Go.Proofs.YtcmfoipnoejmlaaDoor
open Go Go.RowKit
set_option linter.unusedSimpArgs false
set_option linter.unusedVariables false
set_option maxRecDepth 100000
theorem axH_comp2 : axH 53 = some hComp := by unfold axH axC1; rw [axAdd_ne _ _ (by decide)]; exact axAdd_same _ _ _
/-- the condition of a law that lists both tables -/
theorem globs_both {W : World} (h : laidMetH Tryd.prog [("interlace/interlaceref02.constants", Rows.laid_interlace_interlaceref02_constants), ("interlace/hash.constants", Rows.laid_interlace_hash_constants)] W) : GlobsAt W [(0, kcells), (1, kcells)] ∧ ∀ g, has GG g = true → g < W.heap.size := by
  rw [MakeChecks.laidMetH_plain _ _ _ (by kernel_rfl)] at h
  obtain ⟨ps, ⟨g0, t0, cs0, f0, p0, q0, hg0, ht0, hv0, hd0, ⟨g1, t1, cs1, f1, p1, q1, hg1, ht1, hv1, hd1, _⟩, _⟩, _, _⟩ := h
  obtain rfl := Option.some.inj (g_ref.symm.trans hg0)
  obtain rfl := Option.some.inj (tg_ref.symm.trans ht0)
  obtain rfl := Option.some.inj (g_hash.symm.trans hg1)
  obtain rfl := Option.some.inj (tg_hash.symm.trans ht1)
  have hc0 := laid_words (L := KI) Tryd.underlying75 Tryd.underlying29 (by kernel_rfl) hd0 (by kernel_rfl)
  have hc1 := laid_words (L := KI) Tryd.underlying75 Tryd.underlying29 (by kernel_rfl) hd1 (by kernel_rfl)
  have hcell0 : ∀ (j : Nat) (u : Value), kcells[j]? = some u → W.cell? ⟨0, j, none⟩ = some u := by
    intro j u hu
    obtain ⟨x, hx, rfl⟩ := kcells_get j u hu
    rw [World.var?_cell hg0 hv0 j, ← Array.getElem?_toList]
    exact hc0 j x hx
  have hcell1 : ∀ (j : Nat) (u : Value), kcells[j]? = some u → W.cell? ⟨1, j, none⟩ = some u := by
    intro j u hu
    obtain ⟨x, hx, rfl⟩ := kcells_get j u hu
    rw [World.var?_cell hg1 hv1 j, ← Array.getElem?_toList]
    exact hc1 j x hx
  have hlt : 1 < W.heap.size := by
    have := hcell1 0 (.int .u32 1116352408) (by kernel_rfl)
    by_cases hh : 1 < W.heap.size
    · exact hh
    · unfold World.cell? at this
      rw [Array.getElem?_eq_none (by simpa using hh)] at this
      simp at this
  have hall : ∀ g, has GG g = true → g < W.heap.size := fun g hg => by
    have := has_mem hg
    simp only [GG, List.mem_cons, List.not_mem_nil, or_false] at this
    omega
  refine ⟨fun p hp => ?_, hall⟩
  simp only [List.mem_cons, List.not_mem_nil, or_false] at hp
  rcases hp with rfl | rfl
  · exact ⟨hall _ rfl, fun j u hu => ⟨hcell0 j u hu, List.all_eq_true.1 kcells_plain u (List.mem_of_getElem? hu)⟩⟩
  · exact ⟨hlt, fun j u hu => ⟨hcell1 j u hu, List.all_eq_true.1 kcells_plain u (List.mem_of_getElem? hu)⟩⟩
set_option maxHeartbeats 2000000 in
theorem mm_law (a b : ByteArray) (n : Nat) (g : Nat → Fam) (hG : 1 < n) (hG0 : 0 < n) (hk : rowOf (g 1).rows (1 * 1024) = some kcells) (hk0 : rowOf (g 0).rows (0 * 1024) = some kcells) :
    ∃ v s2, callR Tryd.prog (EE axH) 5 [.string a, .string b] (St n g 0 [] []) = some (v, s2) ∧ v = .bool true := by
  have hax : axH 5 = none := axH_plain _ (by decide)
  have SAN : callR Tryd.prog (EE axH) 16 [] (St n g 0 [] []) = some (.bool true, St n g 0 (ins 0 [] 1) []) := sane_run _ hk
  have hkw : rowOf (g 1).rows (1 * 1024) = some (wvs KW) := by rw [hk, kcells_eq]
  have hkw0 : rowOf (g 0).rows (0 * 1024) = some (wvs KW) := by rw [hk0, kcells_eq]
  refine callR_ex (fn := Tryd.f5) 26 hax (fn5 axH) rfl Tryd.ntmps5 (by simp) ?_
  simp (disch := omega) only [ofArgs_cons, ofArgs_nil, Nat.reduceAdd]
  repeat apply W.seq
  apply W.region
  · simp (disch := first | omega | (simp (disch := omega) [ev_tmp, ev_const, get_of, upd_same, upd_ne, Tryd.underlying3, Tryd.underlying9, Tryd.underlying4]; done) | (apply inK_i64; omega) | (apply inK_u64; omega)) only [op_len, cond_true, cond_false, pick_on, stepC_if, goC_true, goC_false, guard_tt, guard_tf, guard_ft, guard_ff, slot_zero, slot_succ, put_some, runC_cons, runC_nil, stepC_free, dstC_dst, dstC_none, thenC_some, cop_assign, cop_move, cop_conv, cop_bin, cop_un, cop_pick, cop_index, cop_indexAddr, cop_load, cop_store, cop_alloc, cop_box, cop_build, cop_slice, cop_s2a, cop_field, cop_fieldAddr, cop_extract, cop_nilCheck, cop_call, cop_builtin, cop_buildSlice, ev_tmp, ev_const, ev_global, ev_func, put_of, get_of, upd_same, upd_ne, List.toList_toArray, List.map_cons, List.map_nil, some_map, none_map, ti3, ti4]
    with_reducible rfl
  simp only [onN, onB]
  repeat apply W.seq
  apply W.region
  · simp (disch := first | omega | (simp (disch := omega) [ev_tmp, ev_const, get_of, upd_same, upd_ne, Tryd.underlying3, Tryd.underlying9, Tryd.underlying4]; done) | (apply inK_i64; omega) | (apply inK_u64; omega)) only [op_len, cond_true, cond_false, pick_on, stepC_if, goC_true, goC_false, guard_tt, guard_tf, guard_ft, guard_ff, slot_zero, slot_succ, put_some, runC_cons, runC_nil, stepC_free, dstC_dst, dstC_none, thenC_some, cop_assign, cop_move, cop_conv, cop_bin, cop_un, cop_pick, cop_index, cop_indexAddr, cop_load, cop_store, cop_alloc, cop_box, cop_build, cop_slice, cop_s2a, cop_field, cop_fieldAddr, cop_extract, cop_nilCheck, cop_call, cop_builtin, cop_buildSlice, ev_tmp, ev_const, ev_global, ev_func, put_of, get_of, upd_same, upd_ne, List.toList_toArray, List.map_cons, List.map_nil, some_map, none_map, ti3, ti4, SAN]
    with_reducible rfl
  simp only [onN, onB]
  by_cases hbig : (400 : Int) < a.size ∨ (400 : Int) < b.size
  · repeat apply W.seq
    refine (W.region_ex (fun fr s => ∃ h, fr = Fr.of 26 h ∧ h 5 = .bool true ∧ h 14 = .bool true) ?_ ?_)
    · by_cases h1 : (400 : Int) < a.size
      · have x1 : decide ((400 : Int) < a.size) = true := decide_eq_true h1
        apply Exists.intro
        apply And.intro
        · simp (disch := first | omega | (simp (disch := omega) [ev_tmp, ev_const, get_of, upd_same, upd_ne, Tryd.underlying3, Tryd.underlying9, Tryd.underlying4]; done) | (apply inK_i64; omega) | (apply inK_u64; omega)) only [op_len, cond_true, cond_false, pick_on, stepC_if, goC_true, goC_false, guard_tt, guard_tf, guard_ft, guard_ff, slot_zero, slot_succ, put_some, runC_cons, runC_nil, stepC_free, dstC_dst, dstC_none, thenC_some, cop_assign, cop_move, cop_conv, cop_bin, cop_un, cop_pick, cop_index, cop_indexAddr, cop_load, cop_store, cop_alloc, cop_box, cop_build, cop_slice, cop_s2a, cop_field, cop_fieldAddr, cop_extract, cop_nilCheck, cop_call, cop_builtin, cop_buildSlice, ev_tmp, ev_const, ev_global, ev_func, put_of, get_of, upd_same, upd_ne, List.toList_toArray, List.map_cons, List.map_nil, some_map, none_map, ti3, ti4, oi_gtr, len_str (ti9 axH), x1]
          with_reducible rfl
        · exact ⟨_, rfl, by simp (disch := omega) only [upd_same, upd_ne], by simp (disch := omega) only [upd_same, upd_ne]⟩
      · have x1 : decide ((400 : Int) < a.size) = false := decide_eq_false h1
        have x2 : decide ((400 : Int) < b.size) = true := decide_eq_true (by omega)
        apply Exists.intro
        apply And.intro
        · simp (disch := first | omega | (simp (disch := omega) [ev_tmp, ev_const, get_of, upd_same, upd_ne, Tryd.underlying3, Tryd.underlying9, Tryd.underlying4]; done) | (apply inK_i64; omega) | (apply inK_u64; omega)) only [op_len, cond_true, cond_false, pick_on, stepC_if, goC_true, goC_false, guard_tt, guard_tf, guard_ft, guard_ff, slot_zero, slot_succ, put_some, runC_cons, runC_nil, stepC_free, dstC_dst, dstC_none, thenC_some, cop_assign, cop_move, cop_conv, cop_bin, cop_un, cop_pick, cop_index, cop_indexAddr, cop_load, cop_store, cop_alloc, cop_box, cop_build, cop_slice, cop_s2a, cop_field, cop_fieldAddr, cop_extract, cop_nilCheck, cop_call, cop_builtin, cop_buildSlice, ev_tmp, ev_const, ev_global, ev_func, put_of, get_of, upd_same, upd_ne, List.toList_toArray, List.map_cons, List.map_nil, some_map, none_map, ti3, ti4, oi_gtr, len_str (ti9 axH), x1, x2]
          with_reducible rfl
        · exact ⟨_, rfl, by simp (disch := omega) only [upd_same, upd_ne], by simp (disch := omega) only [upd_same, upd_ne]⟩
    rintro fr s ⟨h, rfl, h5, h17⟩
    simp only [onN]
    repeat apply W.seq
    refine W.cond (b := true) ?_ ?_
    · simp (disch := omega) only [ev_tmp, get_of, upd_same, upd_ne, h17, decide_true, decide_false]
    simp only [cond_true, cond_false]
    repeat apply W.seq
    apply W.region
    · simp (disch := first | omega | (simp (disch := omega) [ev_tmp, ev_const, get_of, upd_same, upd_ne, h5, Tryd.underlying3, Tryd.underlying9, Tryd.underlying4]; done) | (apply inK_i64; omega) | (apply inK_u64; omega)) only [op_len, cond_true, cond_false, pick_on, stepC_if, goC_true, goC_false, guard_tt, guard_tf, guard_ft, guard_ff, slot_zero, slot_succ, put_some, runC_cons, runC_nil, stepC_free, dstC_dst, dstC_none, thenC_some, cop_assign, cop_move, cop_conv, cop_bin, cop_un, cop_pick, cop_index, cop_indexAddr, cop_load, cop_store, cop_alloc, cop_box, cop_build, cop_slice, cop_s2a, cop_field, cop_fieldAddr, cop_extract, cop_nilCheck, cop_call, cop_builtin, cop_buildSlice, ev_tmp, ev_const, ev_global, ev_func, put_of, get_of, upd_same, upd_ne, List.toList_toArray, List.map_cons, List.map_nil, some_map, none_map, ti3, ti4, h5]
      with_reducible rfl
    simp only [onN, onB]
    apply W.ret
    refine ⟨.inr rfl, [.bool true], ?_⟩
    apply Exists.intro
    apply And.intro
    · simp (disch := omega) only [resC, Tryd.results5, get_of, upd_same]
      all_goals rfl
    · rfl
  have hn1 : ¬ (400 : Int) < a.size := fun h => hbig (.inl h)
  have hn2 : ¬ (400 : Int) < b.size := fun h => hbig (.inr h)
  have x1 : decide ((400 : Int) < a.size) = false := decide_eq_false hn1
  have x2 : decide ((400 : Int) < b.size) = false := decide_eq_false hn2
  repeat apply W.seq
  apply W.region
  · simp (disch := first | omega | (simp (disch := omega) [ev_tmp, ev_const, get_of, upd_same, upd_ne, Tryd.underlying3, Tryd.underlying9, Tryd.underlying4]; done) | (apply inK_i64; omega) | (apply inK_u64; omega)) only [op_len, cond_true, cond_false, pick_on, stepC_if, goC_true, goC_false, guard_tt, guard_tf, guard_ft, guard_ff, slot_zero, slot_succ, put_some, runC_cons, runC_nil, stepC_free, dstC_dst, dstC_none, thenC_some, cop_assign, cop_move, cop_conv, cop_bin, cop_un, cop_pick, cop_index, cop_indexAddr, cop_load, cop_store, cop_alloc, cop_box, cop_build, cop_slice, cop_s2a, cop_field, cop_fieldAddr, cop_extract, cop_nilCheck, cop_call, cop_builtin, cop_buildSlice, ev_tmp, ev_const, ev_global, ev_func, put_of, get_of, upd_same, upd_ne, List.toList_toArray, List.map_cons, List.map_nil, some_map, none_map, ti3, ti4, oi_gtr, len_str (ti9 axH), x1, x2]
    with_reducible rfl
  simp only [onN, onB]
  repeat apply W.seq
  refine W.cond (b := false) ?_ ?_
  · simp (disch := omega) only [ev_tmp, get_of, upd_same, upd_ne, cond_true, decide_true, decide_false]
  simp only [cond_true, cond_false]
  apply W.skip
  simp only [onN, onB]
  obtain ⟨n1, g1, rd1, e1, a1, a2, -⟩ := mac_run axH axH_plain axH_comp2 a b (by omega) (by omega) n g 0 (ins 0 [] 1) [] (Nat.zero_le _) hG hkw
  obtain ⟨n2, g2, rd2, e2, b1, b2, -⟩ := rmac_run axH axH_plain a b (by omega) (by omega) n1 g1 0 rd1 [] (Nat.zero_le _) (by omega) (by rw [a2 _ hG0]; exact hkw0)
  repeat apply W.seq
  apply W.region
  · simp (disch := first | omega | (simp (disch := omega) [ev_tmp, ev_const, get_of, upd_same, upd_ne, Tryd.underlying3, Tryd.underlying9, Tryd.underlying4]; done) | (apply inK_i64; omega) | (apply inK_u64; omega)) only [op_len, cond_true, cond_false, pick_on, stepC_if, goC_true, goC_false, guard_tt, guard_tf, guard_ft, guard_ff, slot_zero, slot_succ, put_some, runC_cons, runC_nil, stepC_free, dstC_dst, dstC_none, thenC_some, cop_assign, cop_move, cop_conv, cop_bin, cop_un, cop_pick, cop_index, cop_indexAddr, cop_load, cop_store, cop_alloc, cop_box, cop_build, cop_slice, cop_s2a, cop_field, cop_fieldAddr, cop_extract, cop_nilCheck, cop_call, cop_builtin, cop_buildSlice, ev_tmp, ev_const, ev_global, ev_func, put_of, get_of, upd_same, upd_ne, List.toList_toArray, List.map_cons, List.map_nil, some_map, none_map, ti3, ti4, e1, e2, os_eql, decide_true]
    with_reducible rfl
  simp only [onN, onB]
  apply W.ret
  refine ⟨.inr rfl, [.bool true], ?_⟩
  apply Exists.intro
  apply And.intro
  · simp (disch := omega) only [resC, Tryd.results5, get_of, upd_same]
    all_goals rfl
  · rfl
end Go.Proofs.YtcmfoipnoejmlaaDoor
