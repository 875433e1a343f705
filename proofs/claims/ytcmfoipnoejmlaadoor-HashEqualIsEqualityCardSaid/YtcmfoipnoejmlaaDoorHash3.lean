/- hash.schedule in the plain machine. -/
import Derived.Test.YtcmfoipnoejmlaaDoorHash2
import Derived.Test.YtcmfoipnoejmlaaDoorCm34
namespace Go.Proofs.YtcmfoipnoejmlaaDoor
open Go Go.RowKit
set_option linter.unusedSimpArgs false
set_option linter.unusedVariables false
def word (bs : List UInt8) (t : Nat) : Nat → UInt32
  | 0 => 0
  | j + 1 => shl32 (word bs t j) 8 ||| (bs.getD (4 * t + j) 0).toUInt32
def sig0 (p : UInt32) : UInt32 := rotr32 p 7 ^^^ rotr32 p 18 ^^^ shr32 p 3
def sig1 (p : UInt32) : UInt32 := rotr32 p 17 ^^^ rotr32 p 19 ^^^ shr32 p 10
def nextw (w : List UInt32) (t : Nat) : UInt32 := w.getD (t - 16) 0 + sig0 (w.getD (t - 15) 0) + w.getD (t - 7) 0 + sig1 (w.getD (t - 2) 0)
def sched (bs : List UInt8) : Nat → List UInt32
  | 0 => List.replicate 64 0
  | t + 1 => (sched bs t).set t (if t < 16 then word bs t 4 else nextw (sched bs t) t)
theorem sched_len (bs : List UInt8) : ∀ t, (sched bs t).length = 64
  | 0 => by simp [sched]
  | t + 1 => by rw [sched, List.length_set, sched_len bs t]
theorem sched_zero (bs : List UInt8) : ∀ t i, t ≤ i → (sched bs t).getD i 0 = 0
  | 0, i, _ => by
    rw [sched, List.getD_eq_getElem?_getD]
    by_cases hi : i < 64
    · rw [List.getElem?_replicate_of_lt hi]; rfl
    · rw [List.getElem?_eq_none (by simp; omega)]; rfl
  | t + 1, i, h => by
    rw [sched, List.getD_eq_getElem?_getD, List.getElem?_set_ne (by omega), ← List.getD_eq_getElem?_getD]
    exact sched_zero bs t i (by omega)
theorem sched_set0 (bs : List UInt8) (t : Nat) (h : t < 64) : (sched bs t).set t (word bs t 0) = sched bs t := by
  apply List.ext_getElem?
  intro i
  by_cases hi : t = i
  · subst hi
    have hl := sched_len bs t
    have h0 := sched_zero bs t t (Nat.le_refl _)
    rw [List.getElem?_set_self (by omega)]
    rw [List.getD_eq_getElem?_getD] at h0
    rw [List.getElem?_eq_getElem (by omega)] at h0 ⊢
    simp at h0
    rw [h0]; rfl
  · rw [List.getElem?_set_ne hi]
theorem getD_set_same {l : List UInt32} {k : Nat} {x : UInt32} (h : k < l.length) : (l.set k x).getD k 0 = x := by
  rw [List.getD_eq_getElem?_getD, List.getElem?_set_self h]; rfl
theorem sched_run (ax : Axs) (hp : Plain ax) (bs : List UInt8) (fb ub off len cap : Nat) (n : Nat) (g : Nat → Fam) (lim : Nat) (rd wr : List Nat) (hl : lim ≤ n) (hb : BSl g n fb ub off len cap bs) (h64 : len = 64) (hc1 : cap < 1000000000) :
    ∃ n' g' rd', callR Tryd.prog (EE ax) 77 [.slice (some (mkA fb ub off)) len cap] (St n g lim rd wr) = some (.agg (wvs (sched bs 64)).toArray, St n' g' lim rd' wr) ∧ n ≤ n' ∧ n' ≤ n + 2 ∧ (∀ i, i < n → g' i = g i) ∧ (∀ x, x ∈ rd' → x ∈ rd ∨ (x = fb ∧ x < lim)) := by
  have hax : ax 77 = none := hp _ (by decide)
  have hr := hp 84 (by decide)
  obtain ⟨cs, hrow, hcs⟩ := hb.row
  have hbl := hb.lt
  have hbc := hb.fits
  suffices hh : ∃ v s2, callR Tryd.prog (EE ax) 77 [.slice (some (mkA fb ub off)) len cap] (St n g lim rd wr) = some (v, s2) ∧ v = .agg (wvs (sched bs 64)).toArray ∧ ∃ n' g' rd', s2 = St n' g' lim rd' wr ∧ n ≤ n' ∧ n' ≤ n + 2 ∧ (∀ i, i < n → g' i = g i) ∧ (∀ x, x ∈ rd' → x ∈ rd ∨ (x = fb ∧ x < lim)) by
    obtain ⟨v, s2, h1, rfl, n', g', rd', rfl, h2⟩ := hh
    exact ⟨n', g', rd', h1, h2⟩
  refine callR_ex (fn := Tryd.f77) 79 hax (fn77 ax) rfl Tryd.ntmps77 (by simp) ?_
  simp (disch := omega) only [ofArgs_cons, ofArgs_nil, Nat.reduceAdd]
  repeat apply W.seq
  apply W.region
  · simp (disch := first | omega | (simp (disch := omega) [ev_tmp, ev_const, get_of, upd_same, upd_ne, Tryd.underlying3, Tryd.underlying83, Tryd.underlying5, Tryd.underlying29, Tryd.underlying22]; done) | (apply inK_i64; omega) | (apply inK_u64; omega)) only [op_len, cond_true, cond_false, pick_on, stepC_if, goC_true, goC_false, guard_tt, guard_tf, guard_ft, guard_ff, slot_zero, slot_succ, put_some, runC_cons, runC_nil, stepC_free, dstC_dst, dstC_none, thenC_some, cop_assign, cop_move, cop_conv, cop_bin, cop_un, cop_pick, cop_index, cop_indexAddr, cop_load, cop_store, cop_alloc, cop_box, cop_build, cop_slice, cop_s2a, cop_field, cop_fieldAddr, cop_extract, cop_nilCheck, cop_call, cop_builtin, cop_buildSlice, ev_tmp, ev_const, ev_global, ev_func, put_of, get_of, upd_same, upd_ne, List.toList_toArray, List.map_cons, List.map_nil, some_map, none_map, ti3, ti83, ti5, ti29, ti22, alloc_st (ti75 ax)]
    with_reducible rfl
  simp only [onN, onB]
  repeat apply W.seq
  apply W.region
  · simp (disch := first | omega | (simp (disch := omega) [ev_tmp, ev_const, get_of, upd_same, upd_ne, Tryd.underlying3, Tryd.underlying83, Tryd.underlying5, Tryd.underlying29, Tryd.underlying22]; done) | (apply inK_i64; omega) | (apply inK_u64; omega)) only [op_len, cond_true, cond_false, pick_on, stepC_if, goC_true, goC_false, guard_tt, guard_tf, guard_ft, guard_ff, slot_zero, slot_succ, put_some, runC_cons, runC_nil, stepC_free, dstC_dst, dstC_none, thenC_some, cop_assign, cop_move, cop_conv, cop_bin, cop_un, cop_pick, cop_index, cop_indexAddr, cop_load, cop_store, cop_alloc, cop_box, cop_build, cop_slice, cop_s2a, cop_field, cop_fieldAddr, cop_extract, cop_nilCheck, cop_call, cop_builtin, cop_buildSlice, ev_tmp, ev_const, ev_global, ev_func, put_of, get_of, upd_same, upd_ne, List.toList_toArray, List.map_cons, List.map_nil, some_map, none_map, ti3, ti83, ti5, ti29, ti22, alloc_st (ti75 ax)]
    with_reducible rfl
  simp only [onN, onB]
  repeat apply W.seq
  apply W.region
  · simp (disch := first | omega | (simp (disch := omega) [ev_tmp, ev_const, get_of, upd_same, upd_ne, Tryd.underlying3, Tryd.underlying83, Tryd.underlying5, Tryd.underlying29, Tryd.underlying22]; done) | (apply inK_i64; omega) | (apply inK_u64; omega)) only [op_len, cond_true, cond_false, pick_on, stepC_if, goC_true, goC_false, guard_tt, guard_tf, guard_ft, guard_ff, slot_zero, slot_succ, put_some, runC_cons, runC_nil, stepC_free, dstC_dst, dstC_none, thenC_some, cop_assign, cop_move, cop_conv, cop_bin, cop_un, cop_pick, cop_index, cop_indexAddr, cop_load, cop_store, cop_alloc, cop_box, cop_build, cop_slice, cop_s2a, cop_field, cop_fieldAddr, cop_extract, cop_nilCheck, cop_call, cop_builtin, cop_buildSlice, ev_tmp, ev_const, ev_global, ev_func, put_of, get_of, upd_same, upd_ne, List.toList_toArray, List.map_cons, List.map_nil, some_map, none_map, ti3, ti83, ti5, ti29, ti22]
    with_reducible rfl
  simp only [onN, onB]
  repeat apply W.seq
  apply W.block
  refine W.loop (fun m fr s => ∃ (t : Nat) (h : Nat → Value) (g' : Nat → Fam) (rd' : List Nat), t ≤ 64 ∧ m = 64 - t ∧ fr = Fr.of 79 h ∧ s = St (n + 2) g' lim rd' wr ∧ h 0 = .slice (some (mkA fb ub off)) len cap ∧ h 2 = .pointer (some (mkA n (n * 1024 + 0) 0)) ∧ h 3 = .pointer (some (mkA (n + 1) ((n + 1) * 1024 + 0) 0)) ∧ h 11 = .int .i64 (t : Int) ∧ g' (n + 1) = ⟨false, [((n + 1) * 1024 + 0, wvs (sched bs t))], none⟩ ∧ g' n = ⟨false, [(n * 1024 + 0, List.replicate 64 (vw 0))], none⟩ ∧ (∀ i, i < n → g' i = g i) ∧ (∀ x, x ∈ rd' → x ∈ rd ∨ (x = fb ∧ x < lim))) ?_ (64 - 0) _ _ ⟨0, _, _, rd, by omega, rfl, rfl, rfl, ?_, ?_, ?_, ?_, ?_, ?_, ?_, fun x hx => .inl hx⟩
  case refine_2 => simp (disch := omega) only [upd_same, upd_ne]
  case refine_3 => simp (disch := omega) only [upd_same, upd_ne]
  case refine_4 => simp (disch := omega) only [upd_same, upd_ne]
  case refine_5 => simp (disch := omega) only [upd_same, upd_ne]; rfl
  case refine_6 => rw [fupd_same]; rfl
  case refine_7 => rw [fupd_ne _ _ _ _ (by omega), fupd_same]; rfl
  case refine_8 => intro i hi; rw [fupd_ne _ _ _ _ (by omega), fupd_ne _ _ _ _ (by omega)]
  rintro m fr s ⟨t, h, g', rd', ht, rfl, rfl, rfl, h0, h2, h3, h11, hw, hz, hg, hrd⟩
  repeat apply W.seq
  apply W.region
  · simp (disch := first | omega | (simp (disch := omega) [ev_tmp, ev_const, get_of, upd_same, upd_ne, h11, Tryd.underlying3, Tryd.underlying83, Tryd.underlying5, Tryd.underlying29, Tryd.underlying22]; done) | (apply inK_i64; omega) | (apply inK_u64; omega)) only [op_len, cond_true, cond_false, pick_on, stepC_if, goC_true, goC_false, guard_tt, guard_tf, guard_ft, guard_ff, slot_zero, slot_succ, put_some, runC_cons, runC_nil, stepC_free, dstC_dst, dstC_none, thenC_some, cop_assign, cop_move, cop_conv, cop_bin, cop_un, cop_pick, cop_index, cop_indexAddr, cop_load, cop_store, cop_alloc, cop_box, cop_build, cop_slice, cop_s2a, cop_field, cop_fieldAddr, cop_extract, cop_nilCheck, cop_call, cop_builtin, cop_buildSlice, ev_tmp, ev_const, ev_global, ev_func, put_of, get_of, upd_same, upd_ne, List.toList_toArray, List.map_cons, List.map_nil, some_map, none_map, ti3, ti83, ti5, ti29, ti22, oi_lss, h11]
    with_reducible rfl
  simp only [onN, onB]
  by_cases hlt : (t : Int) < 64
  case neg =>
    repeat apply W.seq
    refine W.cond (b := false) ?_ ?_
    · simp (disch := omega) only [ev_tmp, get_of, upd_same, upd_ne, hlt, decide_true, decide_false]
    simp only [cond_true, cond_false]
    apply W.exit
    simp only [onN, onB, Nat.beq_refl, cond_true, cond_false, bexit]
    have hte : t = 64 := by omega
    subst hte
    have L1 := ld_all (Γ := EE ax) (n := n + 2) (lim := lim) (rd := rd') (wr := wr) (ti75 ax) rfl (g := g') (f := n + 1) (u := (n + 1) * 1024 + 0) (cs := wvs (sched bs 64)) (by rw [hw]; exact rowOf_one) (by rw [wvs_len, sched_len])
    rw [ins_ge _ (by omega)] at L1
    have S1 := st_all (Γ := EE ax) (n := n + 2) (lim := lim) (rd := rd') (wr := wr) (ti75 ax) (f := n) (u := n * 1024 + 0) (vs := wvs (sched bs 64)) hz (by rw [wvs_len, sched_len]) (by simp) (wvs_one _)
    rw [ins_ge _ (by omega)] at S1
    repeat apply W.seq
    apply W.region
    · simp (disch := first | omega | (simp (disch := omega) [ev_tmp, ev_const, get_of, upd_same, upd_ne, h2, h3, Tryd.underlying3, Tryd.underlying83, Tryd.underlying5, Tryd.underlying29, Tryd.underlying22]; done) | (apply inK_i64; omega) | (apply inK_u64; omega)) only [op_len, cond_true, cond_false, pick_on, stepC_if, goC_true, goC_false, guard_tt, guard_tf, guard_ft, guard_ff, slot_zero, slot_succ, put_some, runC_cons, runC_nil, stepC_free, dstC_dst, dstC_none, thenC_some, cop_assign, cop_move, cop_conv, cop_bin, cop_un, cop_pick, cop_index, cop_indexAddr, cop_load, cop_store, cop_alloc, cop_box, cop_build, cop_slice, cop_s2a, cop_field, cop_fieldAddr, cop_extract, cop_nilCheck, cop_call, cop_builtin, cop_buildSlice, ev_tmp, ev_const, ev_global, ev_func, put_of, get_of, upd_same, upd_ne, List.toList_toArray, List.map_cons, List.map_nil, some_map, none_map, ti3, ti83, ti5, ti29, ti22, h2, h3, L1, cells_agg, S1, stepC_free]
      with_reducible rfl
    simp only [onN, onB]
    apply W.ret
    refine ⟨.inr rfl, [.agg (wvs (sched bs 64)).toArray], St (n + 2) (fupd g' n ⟨false, [(n * 1024 + 0, wvs (sched bs 64))], none⟩) lim rd' wr, ?_, rfl, n + 2, _, rd', rfl, by omega, by omega, fun i hi => by rw [fupd_ne _ _ _ _ (by omega)]; exact hg i hi, hrd⟩
    have L2 := ld_all (Γ := EE ax) (n := n + 2) (lim := lim) (rd := rd') (wr := wr) (ti75 ax) rfl (g := fupd g' n ⟨false, [(n * 1024 + 0, wvs (sched bs 64))], none⟩) (f := n) (u := n * 1024 + 0) (cs := wvs (sched bs 64)) (by rw [fupd_same]; exact rowOf_one) (by rw [wvs_len, sched_len])
    rw [ins_ge _ (by omega)] at L2
    simp (disch := first | omega | (simp (disch := omega) only [get_of, upd_same, upd_ne, h2]; done)) only [resC_cell (ad := mkA n (n * 1024 + 0) 0), resC_nil, Tryd.results77, get_of, upd_same, upd_ne, h2, L2, resThen_some, resAdd_some]
  have htl : t < 64 := by omega
  repeat apply W.seq
  refine W.cond (b := true) ?_ ?_
  · simp (disch := omega) only [ev_tmp, get_of, upd_same, upd_ne, hlt, decide_true, decide_false]
  simp only [cond_true, cond_false]
  apply W.skip
  simp only [onN, onB]
  repeat apply W.seq
  apply W.block
  repeat apply W.seq
  apply W.region
  · simp (disch := first | omega | (simp (disch := omega) [ev_tmp, ev_const, get_of, upd_same, upd_ne, h11, Tryd.underlying3, Tryd.underlying83, Tryd.underlying5, Tryd.underlying29, Tryd.underlying22]; done) | (apply inK_i64; omega) | (apply inK_u64; omega)) only [op_len, cond_true, cond_false, pick_on, stepC_if, goC_true, goC_false, guard_tt, guard_tf, guard_ft, guard_ff, slot_zero, slot_succ, put_some, runC_cons, runC_nil, stepC_free, dstC_dst, dstC_none, thenC_some, cop_assign, cop_move, cop_conv, cop_bin, cop_un, cop_pick, cop_index, cop_indexAddr, cop_load, cop_store, cop_alloc, cop_box, cop_build, cop_slice, cop_s2a, cop_field, cop_fieldAddr, cop_extract, cop_nilCheck, cop_call, cop_builtin, cop_buildSlice, ev_tmp, ev_const, ev_global, ev_func, put_of, get_of, upd_same, upd_ne, List.toList_toArray, List.map_cons, List.map_nil, some_map, none_map, ti3, ti83, ti5, ti29, ti22, h11]
    with_reducible rfl
  simp only [onN, onB]
  repeat apply W.seq
  apply W.region
  · simp (disch := first | omega | (simp (disch := omega) [ev_tmp, ev_const, get_of, upd_same, upd_ne, Tryd.underlying3, Tryd.underlying83, Tryd.underlying5, Tryd.underlying29, Tryd.underlying22]; done) | (apply inK_i64; omega) | (apply inK_u64; omega)) only [op_len, cond_true, cond_false, pick_on, stepC_if, goC_true, goC_false, guard_tt, guard_tf, guard_ft, guard_ff, slot_zero, slot_succ, put_some, runC_cons, runC_nil, stepC_free, dstC_dst, dstC_none, thenC_some, cop_assign, cop_move, cop_conv, cop_bin, cop_un, cop_pick, cop_index, cop_indexAddr, cop_load, cop_store, cop_alloc, cop_box, cop_build, cop_slice, cop_s2a, cop_field, cop_fieldAddr, cop_extract, cop_nilCheck, cop_call, cop_builtin, cop_buildSlice, ev_tmp, ev_const, ev_global, ev_func, put_of, get_of, upd_same, upd_ne, List.toList_toArray, List.map_cons, List.map_nil, some_map, none_map, ti3, ti83, ti5, ti29, ti22, oi_lss]
    with_reducible rfl
  simp only [onN, onB]
  by_cases h16 : (t : Int) < 16
  case pos =>
    repeat apply W.seq
    refine W.cond (b := true) ?_ ?_
    · simp (disch := omega) only [ev_tmp, get_of, upd_same, upd_ne, h16, decide_true, decide_false]
    simp only [cond_true, cond_false]
    have c1 : (4 : Int) * (t : Int) = ((4 * t : Nat) : Int) := by omega
    have c2 : ((4 * t : Nat) : Int) + 4 = ((4 * t + 4 : Nat) : Int) := by omega
    have c4 : 4 * t + 4 - 4 * t = 4 := by omega
    have hbd := bounds_lh (len := len) (cap := cap) (natOf_nat .i64 (4 * t)) (natOf_nat .i64 (4 * t + 4)) (by omega) (by omega)
    repeat apply W.seq
    apply W.region
    · simp (disch := first | omega | (simp (disch := omega) [ev_tmp, ev_const, get_of, upd_same, upd_ne, h0, h11, Tryd.underlying3, Tryd.underlying83, Tryd.underlying5, Tryd.underlying29, Tryd.underlying22]; done) | (apply inK_i64; omega) | (apply inK_u64; omega) | (rw [c1, c2]; apply inK_i64; omega)) only [op_len, cond_true, cond_false, pick_on, stepC_if, goC_true, goC_false, guard_tt, guard_tf, guard_ft, guard_ff, slot_zero, slot_succ, put_some, runC_cons, runC_nil, stepC_free, dstC_dst, dstC_none, thenC_some, cop_assign, cop_move, cop_conv, cop_bin, cop_un, cop_pick, cop_index, cop_indexAddr, cop_load, cop_store, cop_alloc, cop_box, cop_build, cop_slice, cop_s2a, cop_field, cop_fieldAddr, cop_extract, cop_nilCheck, cop_call, cop_builtin, cop_buildSlice, ev_tmp, ev_const, ev_global, ev_func, put_of, get_of, upd_same, upd_ne, List.toList_toArray, List.map_cons, List.map_nil, some_map, none_map, ti3, ti83, ti5, ti29, ti22, h0, h11, oi_mul, c1, oi_add, c2, slice_sl (ti22 ax) (ti5 ax) hbd hb.tag, Nat.mul_one, c4, len_sl (ti22 ax), lit_cast]
      with_reducible rfl
    simp only [onN, onB]
    repeat apply W.seq
    apply W.block
    refine W.loop (fun m fr s => ∃ (j : Nat) (h' : Nat → Value) (g2 : Nat → Fam) (rd2 : List Nat), j ≤ 4 ∧ m = 4 - j ∧ fr = Fr.of 79 h' ∧ s = St (n + 2) g2 lim rd2 wr ∧ h' 0 = .slice (some (mkA fb ub off)) len cap ∧ h' 2 = .pointer (some (mkA n (n * 1024 + 0) 0)) ∧ h' 3 = .pointer (some (mkA (n + 1) ((n + 1) * 1024 + 0) 0)) ∧ h' 4 = .int .i64 (t : Int) ∧ h' 11 = .int .i64 (t : Int) ∧ h' 22 = .slice (some (mkA fb ub (off + 4 * t))) 4 (cap - 4 * t) ∧ h' 23 = .int .i64 4 ∧ h' 24 = .int .i64 (j : Int) ∧ g2 (n + 1) = ⟨false, [((n + 1) * 1024 + 0, wvs ((sched bs t).set t (word bs t j)))], none⟩ ∧ g2 n = ⟨false, [(n * 1024 + 0, List.replicate 64 (vw 0))], none⟩ ∧ (∀ i, i < n → g2 i = g i) ∧ (∀ x, x ∈ rd2 → x ∈ rd ∨ (x = fb ∧ x < lim))) ?_ (4 - 0) _ _ ⟨0, _, g', rd', by omega, rfl, rfl, rfl, ?_, ?_, ?_, ?_, ?_, ?_, ?_, ?_, ?_, hz, hg, hrd⟩
    case refine_2 => simp (disch := omega) only [upd_same, upd_ne, h0]
    case refine_3 => simp (disch := omega) only [upd_same, upd_ne, h2]
    case refine_4 => simp (disch := omega) only [upd_same, upd_ne, h3]
    case refine_5 => simp (disch := omega) only [upd_same, upd_ne]
    case refine_6 => simp (disch := omega) only [upd_same, upd_ne, h11]
    case refine_7 => simp (disch := omega) only [upd_same, upd_ne]
    case refine_8 => simp (disch := omega) only [upd_same, upd_ne]
    case refine_9 => simp (disch := omega) only [upd_same, upd_ne]; rfl
    case refine_10 => rw [hw, sched_set0 bs t htl]
    clear h0 h2 h3 h11 hw hz hg hrd
    rintro m fr s ⟨j, h', g2, rd2, hj, rfl, rfl, rfl, h0, h2, h3, h4, h11, h22, h23, h24, hw, hz, hg, hrd⟩
    repeat apply W.seq
    apply W.region
    · simp (disch := first | omega | (simp (disch := omega) [ev_tmp, ev_const, get_of, upd_same, upd_ne, h23, h24, Tryd.underlying3, Tryd.underlying83, Tryd.underlying5, Tryd.underlying29, Tryd.underlying22]; done) | (apply inK_i64; omega) | (apply inK_u64; omega)) only [op_len, cond_true, cond_false, pick_on, stepC_if, goC_true, goC_false, guard_tt, guard_tf, guard_ft, guard_ff, slot_zero, slot_succ, put_some, runC_cons, runC_nil, stepC_free, dstC_dst, dstC_none, thenC_some, cop_assign, cop_move, cop_conv, cop_bin, cop_un, cop_pick, cop_index, cop_indexAddr, cop_load, cop_store, cop_alloc, cop_box, cop_build, cop_slice, cop_s2a, cop_field, cop_fieldAddr, cop_extract, cop_nilCheck, cop_call, cop_builtin, cop_buildSlice, ev_tmp, ev_const, ev_global, ev_func, put_of, get_of, upd_same, upd_ne, List.toList_toArray, List.map_cons, List.map_nil, some_map, none_map, ti3, ti83, ti5, ti29, ti22, oi_lss, h23, h24]
      with_reducible rfl
    simp only [onN, onB]
    by_cases hlj : (j : Int) < 4
    case neg =>
      repeat apply W.seq
      refine W.cond (b := false) ?_ ?_
      · simp (disch := omega) only [ev_tmp, get_of, upd_same, upd_ne, hlj, decide_true, decide_false]
      simp only [cond_true, cond_false]
      apply W.exit
      simp only [onN, onB, Nat.beq_refl, cond_true, cond_false, bexit]
      apply W.exit
      simp only [onN, onB, Nat.beq_refl, cond_true]
      repeat apply W.seq
      apply W.region
      · simp (disch := first | omega | (simp (disch := omega) [ev_tmp, ev_const, get_of, upd_same, upd_ne, h11, Tryd.underlying3, Tryd.underlying83, Tryd.underlying5, Tryd.underlying29, Tryd.underlying22]; done) | (apply inK_i64; omega) | (apply inK_u64; omega)) only [op_len, cond_true, cond_false, pick_on, stepC_if, goC_true, goC_false, guard_tt, guard_tf, guard_ft, guard_ff, slot_zero, slot_succ, put_some, runC_cons, runC_nil, stepC_free, dstC_dst, dstC_none, thenC_some, cop_assign, cop_move, cop_conv, cop_bin, cop_un, cop_pick, cop_index, cop_indexAddr, cop_load, cop_store, cop_alloc, cop_box, cop_build, cop_slice, cop_s2a, cop_field, cop_fieldAddr, cop_extract, cop_nilCheck, cop_call, cop_builtin, cop_buildSlice, ev_tmp, ev_const, ev_global, ev_func, put_of, get_of, upd_same, upd_ne, List.toList_toArray, List.map_cons, List.map_nil, some_map, none_map, ti3, ti83, ti5, ti29, ti22, oi_add, h11]
        with_reducible rfl
      simp only [onN, onB]
      have hj4 : j = 4 := by omega
      subst hj4
      refine ⟨64 - (t + 1), by omega, t + 1, _, g2, rd2, by omega, rfl, rfl, rfl, ?_, ?_, ?_, ?_, ?_, hz, hg, hrd⟩
      · simp (disch := omega) only [upd_same, upd_ne, h0]
      · simp (disch := omega) only [upd_same, upd_ne, h2]
      · simp (disch := omega) only [upd_same, upd_ne, h3]
      · simp (disch := omega) only [upd_same, upd_ne]; rfl
      · rw [hw, sched, if_pos (by omega)]
    have hjl : j < 4 := by omega
    repeat apply W.seq
    refine W.cond (b := true) ?_ ?_
    · simp (disch := omega) only [ev_tmp, get_of, upd_same, upd_ne, hlj, decide_true, decide_false]
    simp only [cond_true, cond_false]
    apply W.skip
    simp only [onN, onB]
    have hbt := hcs (4 * t + j) (by omega)
    rw [show off + (4 * t + j) = off + 4 * t + j by omega] at hbt
    have hlw : ((sched bs t).set t (word bs t j)).length = 64 := by rw [List.length_set, sched_len]
    have B1 := ld_one (n := n + 2) (lim := lim) (rd := rd2) (wr := wr) (ti5 ax) rfl (g := g2) (f := fb) (u := ub) (off := off + 4 * t + j) (cs := cs) (by rw [hg fb hbl]; exact hrow) hbt
    have A1 := ld_one (n := n + 2) (lim := lim) (rd := ins lim rd2 fb) (wr := wr) (ti29 ax) rfl (g := g2) (f := n + 1) (u := (n + 1) * 1024 + 0) (off := 0 + t) (cs := wvs ((sched bs t).set t (word bs t j))) (by rw [hw]; exact rowOf_one) (by rw [Nat.zero_add]; exact wvs_get (by omega))
    rw [ins_ge (f := n + 1) _ (by omega), getD_set_same (by rw [sched_len]; omega)] at A1
    have C1 := fun v hv => st_one (n := n + 2) (lim := lim) (rd := ins lim rd2 fb) (wr := wr) (ti29 ax) (g := g2) (f := n + 1) (u := (n + 1) * 1024 + 0) (off := 0 + t) (v := v) hw (by rw [wvs_len]; omega) hv
    simp only [ins_ge (f := n + 1) _ (show lim ≤ n + 1 by omega)] at C1
    repeat apply W.seq
    apply W.block
    repeat apply W.seq
    apply W.region
    · simp (disch := first | omega | (simp (disch := omega) [ev_tmp, ev_const, get_of, upd_same, upd_ne, h22, h24, Tryd.underlying3, Tryd.underlying83, Tryd.underlying5, Tryd.underlying29, Tryd.underlying22]; done) | (apply inK_i64; omega) | (apply inK_u64; omega)) only [op_len, cond_true, cond_false, pick_on, stepC_if, goC_true, goC_false, guard_tt, guard_tf, guard_ft, guard_ff, slot_zero, slot_succ, put_some, runC_cons, runC_nil, stepC_free, dstC_dst, dstC_none, thenC_some, cop_assign, cop_move, cop_conv, cop_bin, cop_un, cop_pick, cop_index, cop_indexAddr, cop_load, cop_store, cop_alloc, cop_box, cop_build, cop_slice, cop_s2a, cop_field, cop_fieldAddr, cop_extract, cop_nilCheck, cop_call, cop_builtin, cop_buildSlice, ev_tmp, ev_const, ev_global, ev_func, put_of, get_of, upd_same, upd_ne, List.toList_toArray, List.map_cons, List.map_nil, some_map, none_map, ti3, ti83, ti5, ti29, ti22, h22, h24, natOf_nat, idx_sl (ti22 ax) (ti5 ax) hjl, B1]
      with_reducible rfl
    simp only [onN, onB]
    repeat apply W.seq
    apply W.region
    · simp (disch := first | omega | (simp (disch := omega) [ev_tmp, ev_const, get_of, upd_same, upd_ne, h3, h4, Tryd.underlying3, Tryd.underlying83, Tryd.underlying5, Tryd.underlying29, Tryd.underlying22]; done) | (apply inK_i64; omega) | (apply inK_u64; omega)) only [op_len, cond_true, cond_false, pick_on, stepC_if, goC_true, goC_false, guard_tt, guard_tf, guard_ft, guard_ff, slot_zero, slot_succ, put_some, runC_cons, runC_nil, stepC_free, dstC_dst, dstC_none, thenC_some, cop_assign, cop_move, cop_conv, cop_bin, cop_un, cop_pick, cop_index, cop_indexAddr, cop_load, cop_store, cop_alloc, cop_box, cop_build, cop_slice, cop_s2a, cop_field, cop_fieldAddr, cop_extract, cop_nilCheck, cop_call, cop_builtin, cop_buildSlice, ev_tmp, ev_const, ev_global, ev_func, put_of, get_of, upd_same, upd_ne, List.toList_toArray, List.map_cons, List.map_nil, some_map, none_map, ti3, ti83, ti5, ti29, ti22, h3, h4, natOf_nat, idx_arr (ti75 ax) (ti29 ax) htl, A1, bw_shl_l, conv_bw (ti5 ax) (ti29 ax), bw_or, cells_vw, C1 _ (vw_one _)]
      with_reducible rfl
    simp only [onN, onB]
    repeat apply W.seq
    apply W.region
    · simp (disch := first | omega | (simp (disch := omega) [ev_tmp, ev_const, get_of, upd_same, upd_ne, h24, Tryd.underlying3, Tryd.underlying83, Tryd.underlying5, Tryd.underlying29, Tryd.underlying22]; done) | (apply inK_i64; omega) | (apply inK_u64; omega)) only [op_len, cond_true, cond_false, pick_on, stepC_if, goC_true, goC_false, guard_tt, guard_tf, guard_ft, guard_ff, slot_zero, slot_succ, put_some, runC_cons, runC_nil, stepC_free, dstC_dst, dstC_none, thenC_some, cop_assign, cop_move, cop_conv, cop_bin, cop_un, cop_pick, cop_index, cop_indexAddr, cop_load, cop_store, cop_alloc, cop_box, cop_build, cop_slice, cop_s2a, cop_field, cop_fieldAddr, cop_extract, cop_nilCheck, cop_call, cop_builtin, cop_buildSlice, ev_tmp, ev_const, ev_global, ev_func, put_of, get_of, upd_same, upd_ne, List.toList_toArray, List.map_cons, List.map_nil, some_map, none_map, ti3, ti83, ti5, ti29, ti22, oi_add, h24]
      with_reducible rfl
    simp only [onN, onB]
    refine ⟨4 - (j + 1), by omega, j + 1, _, _, _, by omega, rfl, rfl, rfl, ?_, ?_, ?_, ?_, ?_, ?_, ?_, ?_, ?_, ?_, ?_, ?_⟩
    · simp (disch := omega) only [upd_same, upd_ne, h0]
    · simp (disch := omega) only [upd_same, upd_ne, h2]
    · simp (disch := omega) only [upd_same, upd_ne, h3]
    · simp (disch := omega) only [upd_same, upd_ne, h4]
    · simp (disch := omega) only [upd_same, upd_ne, h11]
    · simp (disch := omega) only [upd_same, upd_ne, h22]
    · simp (disch := omega) only [upd_same, upd_ne, h23]
    · simp (disch := omega) only [upd_same, upd_ne]; rfl
    · rw [fupd_same, Nat.zero_add, wvs_set, List.set_set]; rfl
    · rw [fupd_ne _ _ _ _ (by omega)]; exact hz
    · intro i hi; rw [fupd_ne _ _ _ _ (by omega)]; exact hg i hi
    · intro x hx
      rcases mem_ins hx with hx | hx
      · exact hrd x hx
      · exact .inr hx
  repeat apply W.seq
  refine W.cond (b := false) ?_ ?_
  · simp (disch := omega) only [ev_tmp, get_of, upd_same, upd_ne, h16, decide_true, decide_false]
  simp only [cond_true, cond_false]
  apply W.skip
  simp only [onN, onB]
  have ht16 : 16 ≤ t := by omega
  have c15 : (t : Int) - 15 = ((t - 15 : Nat) : Int) := by omega
  have c2 : (t : Int) - 2 = ((t - 2 : Nat) : Int) := by omega
  have c16 : (t : Int) - 16 = ((t - 16 : Nat) : Int) := by omega
  have c7 : (t : Int) - 7 = ((t - 7 : Nat) : Int) := by omega
  have LQ := fun (lim' : Nat) (k : Nat) (hk : k < 64) => ld_q (n := n + 2) (ti29 ax) rfl (g := g') (f := n + 1) (u := (n + 1) * 1024 + 0) (off := 0 + k) (cs := wvs (sched bs t)) (by rw [hw]; exact rowOf_one) (by rw [Nat.zero_add]; exact wvs_get (by rw [sched_len]; exact hk)) (by omega)
  have IG := fun l => ins_ge (m := lim) (f := n + 1) l (by omega)
  repeat apply W.seq
  apply W.quiet
  · simp (disch := first | omega | (simp (disch := omega) [ev_tmp, ev_const, get_of, upd_same, upd_ne, h3, h11, Tryd.underlying3, Tryd.underlying83, Tryd.underlying5, Tryd.underlying29, Tryd.underlying22]; done) | (apply inK_i64; omega) | (apply inK_u64; omega)) only [op_len, cond_true, cond_false, pick_on, stepC_if, goC_true, goC_false, guard_tt, guard_tf, guard_ft, guard_ff, slot_zero, slot_succ, put_some, runC_cons, runC_nil, stepC_free, dstC_dst, dstC_none, thenC_some, cop_assign, cop_move, cop_conv, cop_bin, cop_un, cop_pick, cop_index, cop_indexAddr, cop_load, cop_store, cop_alloc, cop_box, cop_build, cop_slice, cop_s2a, cop_field, cop_fieldAddr, cop_extract, cop_nilCheck, cop_call, cop_builtin, cop_buildSlice, ev_tmp, ev_const, ev_global, ev_func, put_of, get_of, upd_same, upd_ne, List.toList_toArray, List.map_cons, List.map_nil, some_map, none_map, ti3, ti83, ti5, ti29, ti22, quietC_cons, quietC_nil, inner_st, thenQ_same, thenQ_rd, h3, h11, oi_sub, c15, c2, natOf_nat, idx_arr (ti75 ax) (ti29 ax) (show t - 15 < 64 by omega), idx_arr (ti75 ax) (ti29 ax) (show t - 2 < 64 by omega), LQ 0 (t - 15) (by omega), LQ 0 (t - 2) (by omega), IG]
    with_reducible rfl
  simp only [onN, onB]
  have R7 : ∀ x s, callR Tryd.prog (EE ax) 84 [vw x, .int .i64 (-7)] s = some (vw (rotr32 x 7), s) := fun x s => rotl_run ax hr x 7 (by omega) (by omega) s
  have R18 : ∀ x s, callR Tryd.prog (EE ax) 84 [vw x, .int .i64 (-18)] s = some (vw (rotr32 x 18), s) := fun x s => rotl_run ax hr x 18 (by omega) (by omega) s
  have R17 : ∀ x s, callR Tryd.prog (EE ax) 84 [vw x, .int .i64 (-17)] s = some (vw (rotr32 x 17), s) := fun x s => rotl_run ax hr x 17 (by omega) (by omega) s
  have R19 : ∀ x s, callR Tryd.prog (EE ax) 84 [vw x, .int .i64 (-19)] s = some (vw (rotr32 x 19), s) := fun x s => rotl_run ax hr x 19 (by omega) (by omega) s
  repeat apply W.seq
  apply W.region
  · simp (disch := first | omega | (simp (disch := omega) [ev_tmp, ev_const, get_of, upd_same, upd_ne, Tryd.underlying3, Tryd.underlying83, Tryd.underlying5, Tryd.underlying29, Tryd.underlying22]; done) | (apply inK_i64; omega) | (apply inK_u64; omega)) only [op_len, cond_true, cond_false, pick_on, stepC_if, goC_true, goC_false, guard_tt, guard_tf, guard_ft, guard_ff, slot_zero, slot_succ, put_some, runC_cons, runC_nil, stepC_free, dstC_dst, dstC_none, thenC_some, cop_assign, cop_move, cop_conv, cop_bin, cop_un, cop_pick, cop_index, cop_indexAddr, cop_load, cop_store, cop_alloc, cop_box, cop_build, cop_slice, cop_s2a, cop_field, cop_fieldAddr, cop_extract, cop_nilCheck, cop_call, cop_builtin, cop_buildSlice, ev_tmp, ev_const, ev_global, ev_func, put_of, get_of, upd_same, upd_ne, List.toList_toArray, List.map_cons, List.map_nil, some_map, none_map, ti3, ti83, ti5, ti29, ti22, R7, R18, bw_xor, bw_shr_l]
    with_reducible rfl
  simp only [onN, onB]
  repeat apply W.seq
  apply W.region
  · simp (disch := first | omega | (simp (disch := omega) [ev_tmp, ev_const, get_of, upd_same, upd_ne, Tryd.underlying3, Tryd.underlying83, Tryd.underlying5, Tryd.underlying29, Tryd.underlying22]; done) | (apply inK_i64; omega) | (apply inK_u64; omega)) only [op_len, cond_true, cond_false, pick_on, stepC_if, goC_true, goC_false, guard_tt, guard_tf, guard_ft, guard_ff, slot_zero, slot_succ, put_some, runC_cons, runC_nil, stepC_free, dstC_dst, dstC_none, thenC_some, cop_assign, cop_move, cop_conv, cop_bin, cop_un, cop_pick, cop_index, cop_indexAddr, cop_load, cop_store, cop_alloc, cop_box, cop_build, cop_slice, cop_s2a, cop_field, cop_fieldAddr, cop_extract, cop_nilCheck, cop_call, cop_builtin, cop_buildSlice, ev_tmp, ev_const, ev_global, ev_func, put_of, get_of, upd_same, upd_ne, List.toList_toArray, List.map_cons, List.map_nil, some_map, none_map, ti3, ti83, ti5, ti29, ti22, R17, R19, bw_xor, bw_shr_l]
    with_reducible rfl
  simp only [onN, onB]
  have C1 := fun v hv => st_q (n := n + 2) (ti29 ax) (g := g') (f := n + 1) (u := (n + 1) * 1024 + 0) (off := 0 + t) (v := v) hw (by rw [wvs_len, sched_len]; omega) hv (by omega)
  repeat apply W.seq
  apply W.last
  · kernel_rfl
  · simp (disch := first | omega | (simp (disch := omega) [ev_tmp, ev_const, get_of, upd_same, upd_ne, h3, h11, Tryd.underlying3, Tryd.underlying83, Tryd.underlying5, Tryd.underlying29, Tryd.underlying22]; done) | (apply inK_i64; omega) | (apply inK_u64; omega)) only [op_len, cond_true, cond_false, pick_on, stepC_if, goC_true, goC_false, guard_tt, guard_tf, guard_ft, guard_ff, slot_zero, slot_succ, put_some, runC_cons, runC_nil, stepC_free, dstC_dst, dstC_none, thenC_some, cop_assign, cop_move, cop_conv, cop_bin, cop_un, cop_pick, cop_index, cop_indexAddr, cop_load, cop_store, cop_alloc, cop_box, cop_build, cop_slice, cop_s2a, cop_field, cop_fieldAddr, cop_extract, cop_nilCheck, cop_call, cop_builtin, cop_buildSlice, ev_tmp, ev_const, ev_global, ev_func, put_of, get_of, upd_same, upd_ne, List.toList_toArray, List.map_cons, List.map_nil, some_map, none_map, ti3, ti83, ti5, ti29, ti22, quietL_cons, quietL_one, inner_st, thenL_same, thenL_rd, lastL_some, insAll_nil, insAll_cons, h3, h11, oi_sub, c16, c7, natOf_nat, idx_arr (ti75 ax) (ti29 ax) (show t - 16 < 64 by omega), idx_arr (ti75 ax) (ti29 ax) (show t - 7 < 64 by omega), idx_arr (ti75 ax) (ti29 ax) htl, LQ 0 (t - 16) (by omega), LQ 0 (t - 7) (by omega), IG, bw_add, cells_vw, C1 _ (vw_one _)]
    with_reducible rfl
  simp only [onN, onB]
  repeat apply W.seq
  apply W.region
  · simp (disch := first | omega | (simp (disch := omega) [ev_tmp, ev_const, get_of, upd_same, upd_ne, h11, Tryd.underlying3, Tryd.underlying83, Tryd.underlying5, Tryd.underlying29, Tryd.underlying22]; done) | (apply inK_i64; omega) | (apply inK_u64; omega)) only [op_len, cond_true, cond_false, pick_on, stepC_if, goC_true, goC_false, guard_tt, guard_tf, guard_ft, guard_ff, slot_zero, slot_succ, put_some, runC_cons, runC_nil, stepC_free, dstC_dst, dstC_none, thenC_some, cop_assign, cop_move, cop_conv, cop_bin, cop_un, cop_pick, cop_index, cop_indexAddr, cop_load, cop_store, cop_alloc, cop_box, cop_build, cop_slice, cop_s2a, cop_field, cop_fieldAddr, cop_extract, cop_nilCheck, cop_call, cop_builtin, cop_buildSlice, ev_tmp, ev_const, ev_global, ev_func, put_of, get_of, upd_same, upd_ne, List.toList_toArray, List.map_cons, List.map_nil, some_map, none_map, ti3, ti83, ti5, ti29, ti22, oi_add, h11]
    with_reducible rfl
  simp only [onN, onB]
  refine ⟨64 - (t + 1), by omega, t + 1, _, _, rd', by omega, rfl, rfl, rfl, ?_, ?_, ?_, ?_, ?_, ?_, ?_, hrd⟩
  · simp (disch := omega) only [upd_same, upd_ne, h0]
  · simp (disch := omega) only [upd_same, upd_ne, h2]
  · simp (disch := omega) only [upd_same, upd_ne, h3]
  · simp (disch := omega) only [upd_same, upd_ne]; rfl
  · rw [fupd_same, Nat.zero_add, wvs_set, sched, if_neg (by omega)]; rfl
  · rw [fupd_ne _ _ _ _ (by omega)]; exact hz
  · intro i hi; rw [fupd_ne _ _ _ _ (by omega)]; exact hg i hi
end Go.Proofs.YtcmfoipnoejmlaaDoor
