/- interlaceref02.Few and Joined in the plain machine. -/
import Derived.Test.YtcmfoipnoejmlaaDoorHsD
namespace Go.Proofs.YtcmfoipnoejmlaaDoor
open Go Go.RowKit
set_option linter.unusedSimpArgs false
set_option linter.unusedVariables false
set_option maxRecDepth 100000
def nilB : ByteArray := ⟨#[]⟩
/-- a slice of strings that may be read -/
def StrArg (g : Nat → Fam) (n : Nat) (x : Option Addr) (len cap : Nat) (ss : List ByteArray) : Prop :=
  ss.length = len ∧ len ≤ cap ∧ ((x = none ∧ len = 0 ∧ cap = 0) ∨ ∃ f u off, x = some (mkA f u off) ∧ u % 1024 = 0 ∧ (len = 0 ∨ (f < n ∧ ∃ cs, rowOf (g f).rows u = some cs ∧ ∀ i, i < len → cs[off + i]? = some (.string (ss.getD i nilB)))))
theorem StrArg.keep {g g' : Nat → Fam} {n n' len cap : Nat} {x : Option Addr} {ss : List ByteArray} (h : StrArg g n x len cap ss) (hg : ∀ i, i < n → g' i = g i) (hn : n ≤ n') : StrArg g' n' x len cap ss := by
  obtain ⟨h1, h2, h3⟩ := h
  refine ⟨h1, h2, h3.imp id ?_⟩
  rintro ⟨f, u, off, k1, k2, k3⟩
  refine ⟨f, u, off, k1, k2, k3.imp id ?_⟩
  rintro ⟨k4, cs, k5, k6⟩
  exact ⟨by omega, cs, by rw [hg f k4]; exact k5, k6⟩
/-- the string at a place, read -/
theorem StrArg.at {Γ : Env} {g : Nat → Fam} {n len cap i : Nat} {x : Option Addr} {ss : List ByteArray} {t e : TypeId} {z b b2 : Nat} {zs zs2 : List Value} (h : StrArg g n x len cap ss) (hi : i < len) (ht : Γ.ti.at t = some ⟨.slice e, z, b, zs⟩) (he : Γ.ti.at e = some ⟨.string, 1, b2, zs2⟩) :
    ∃ p f, f < n ∧ (∀ s, opIndexAddr Γ s t (.slice x len cap) (some i) = some (.pointer (some p), s)) ∧ (∀ N (g' : Nat → Fam) lim rd wr, (∀ j, j < n → g' j = g j) → opLoad Γ (St N g' lim rd wr) e (.pointer (some p)) = some (.string (ss.getD i nilB), St N g' lim (ins lim rd f) wr)) := by
  obtain ⟨h1, h2, ⟨rfl, h0, _⟩ | ⟨f, u, off, rfl, k2, k3⟩⟩ := h
  · omega
  · rcases k3 with k3 | ⟨k4, cs, k5, k6⟩
    · omega
    · exact ⟨mkA f u (off + i), f, k4, fun s => idx_sl ht he hi, fun N g' lim rd wr hg => ld_one he rfl (by rw [hg f k4]; exact k5) (k6 i hi)⟩
set_option maxHeartbeats 1000000 in
theorem few_run (ax : Axs) (hp : Plain ax) (x : Option Addr) (len cap : Nat) (ss : List ByteArray) (n : Nat) (g : Nat → Fam) (lim : Nat) (rd wr : List Nat) (hs : StrArg g n x len cap ss) :
    ∃ b rd', callR Tryd.prog (EE ax) 19 [.slice x len cap] (St n g lim rd wr) = some (.bool b, St n g lim rd' wr) ∧ (b = true → len ≤ 12 ∧ ∀ i, i < len → (ss.getD i nilB).size ≤ 400) := by
  have hax : ax 19 = none := hp _ (by decide)
  suffices hh : ∃ v s2, callR Tryd.prog (EE ax) 19 [.slice x len cap] (St n g lim rd wr) = some (v, s2) ∧ ∃ b rd', v = .bool b ∧ s2 = St n g lim rd' wr ∧ (b = true → len ≤ 12 ∧ ∀ i, i < len → (ss.getD i nilB).size ≤ 400) by
    obtain ⟨v, s2, h1, b, rd', rfl, rfl, h2⟩ := hh
    exact ⟨b, rd', h1, h2⟩
  refine callR_ex (fn := Tryd.f19) 19 hax (fn19 ax) rfl Tryd.ntmps19 (by simp) ?_
  simp (disch := omega) only [ofArgs_cons, ofArgs_nil, Nat.reduceAdd]
  repeat apply W.seq
  apply W.region
  · simp (disch := first | omega | (simp (disch := omega) [ev_tmp, ev_const, get_of, upd_same, upd_ne, Tryd.underlying3, Tryd.underlying83, Tryd.underlying5, Tryd.underlying9, Tryd.underlying4]; done) | (apply inK_i64; omega) | (apply inK_u64; omega)) only [op_len, cond_true, cond_false, pick_on, stepC_if, goC_true, goC_false, guard_tt, guard_tf, guard_ft, guard_ff, slot_zero, slot_succ, put_some, runC_cons, runC_nil, stepC_free, dstC_dst, dstC_none, thenC_some, cop_assign, cop_move, cop_conv, cop_bin, cop_un, cop_pick, cop_index, cop_indexAddr, cop_load, cop_store, cop_alloc, cop_box, cop_build, cop_slice, cop_s2a, cop_field, cop_fieldAddr, cop_extract, cop_nilCheck, cop_call, cop_builtin, cop_buildSlice, ev_tmp, ev_const, ev_global, ev_func, put_of, get_of, upd_same, upd_ne, List.toList_toArray, List.map_cons, List.map_nil, some_map, none_map, ti3, ti83, ti5, ti4]
    with_reducible rfl
  simp only [onN, onB]
  repeat apply W.seq
  apply W.region
  · simp (disch := first | omega | (simp (disch := omega) [ev_tmp, ev_const, get_of, upd_same, upd_ne, Tryd.underlying3, Tryd.underlying83, Tryd.underlying5, Tryd.underlying9, Tryd.underlying4]; done) | (apply inK_i64; omega) | (apply inK_u64; omega)) only [op_len, cond_true, cond_false, pick_on, stepC_if, goC_true, goC_false, guard_tt, guard_tf, guard_ft, guard_ff, slot_zero, slot_succ, put_some, runC_cons, runC_nil, stepC_free, dstC_dst, dstC_none, thenC_some, cop_assign, cop_move, cop_conv, cop_bin, cop_un, cop_pick, cop_index, cop_indexAddr, cop_load, cop_store, cop_alloc, cop_box, cop_build, cop_slice, cop_s2a, cop_field, cop_fieldAddr, cop_extract, cop_nilCheck, cop_call, cop_builtin, cop_buildSlice, ev_tmp, ev_const, ev_global, ev_func, put_of, get_of, upd_same, upd_ne, List.toList_toArray, List.map_cons, List.map_nil, some_map, none_map, ti3, ti83, ti5, ti4, len_sl (ti27 ax), oi_gtr]
    with_reducible rfl
  simp only [onN, onB]
  by_cases h12 : (12 : Int) < (len : Int)
  · skip
    repeat apply W.seq
    refine W.cond (b := true) ?_ ?_
    · simp (disch := omega) only [ev_tmp, get_of, upd_same, upd_ne, h12, decide_true, decide_false]
    simp only [cond_true, cond_false]
    repeat apply W.seq
    apply W.region
    · simp (disch := first | omega | (simp (disch := omega) [ev_tmp, ev_const, get_of, upd_same, upd_ne, Tryd.underlying3, Tryd.underlying83, Tryd.underlying5, Tryd.underlying9, Tryd.underlying4]; done) | (apply inK_i64; omega) | (apply inK_u64; omega)) only [op_len, cond_true, cond_false, pick_on, stepC_if, goC_true, goC_false, guard_tt, guard_tf, guard_ft, guard_ff, slot_zero, slot_succ, put_some, runC_cons, runC_nil, stepC_free, dstC_dst, dstC_none, thenC_some, cop_assign, cop_move, cop_conv, cop_bin, cop_un, cop_pick, cop_index, cop_indexAddr, cop_load, cop_store, cop_alloc, cop_box, cop_build, cop_slice, cop_s2a, cop_field, cop_fieldAddr, cop_extract, cop_nilCheck, cop_call, cop_builtin, cop_buildSlice, ev_tmp, ev_const, ev_global, ev_func, put_of, get_of, upd_same, upd_ne, List.toList_toArray, List.map_cons, List.map_nil, some_map, none_map, ti3, ti83, ti5, ti4]
      with_reducible rfl
    simp only [onN, onB]
    apply W.ret
    refine ⟨.inr rfl, [.bool false], St n g lim rd wr, ?_, false, rd, rfl, rfl, fun h => by simp at h⟩
    simp (disch := omega) only [resC, Tryd.results19, get_of, upd_same]
    all_goals rfl
  repeat apply W.seq
  refine W.cond (b := false) ?_ ?_
  · simp (disch := omega) only [ev_tmp, get_of, upd_same, upd_ne, h12, decide_true, decide_false]
  simp only [cond_true, cond_false]
  apply W.skip
  simp only [onN, onB]
  repeat apply W.seq
  apply W.region
  · simp (disch := first | omega | (simp (disch := omega) [ev_tmp, ev_const, get_of, upd_same, upd_ne, Tryd.underlying3, Tryd.underlying83, Tryd.underlying5, Tryd.underlying9, Tryd.underlying4]; done) | (apply inK_i64; omega) | (apply inK_u64; omega)) only [op_len, cond_true, cond_false, pick_on, stepC_if, goC_true, goC_false, guard_tt, guard_tf, guard_ft, guard_ff, slot_zero, slot_succ, put_some, runC_cons, runC_nil, stepC_free, dstC_dst, dstC_none, thenC_some, cop_assign, cop_move, cop_conv, cop_bin, cop_un, cop_pick, cop_index, cop_indexAddr, cop_load, cop_store, cop_alloc, cop_box, cop_build, cop_slice, cop_s2a, cop_field, cop_fieldAddr, cop_extract, cop_nilCheck, cop_call, cop_builtin, cop_buildSlice, ev_tmp, ev_const, ev_global, ev_func, put_of, get_of, upd_same, upd_ne, List.toList_toArray, List.map_cons, List.map_nil, some_map, none_map, ti3, ti83, ti5, ti4]
    with_reducible rfl
  simp only [onN, onB]
  repeat apply W.seq
  apply W.block
  refine W.loop (fun m fr s => ∃ (i : Nat) (h : Nat → Value) (rd' : List Nat), i ≤ len ∧ m = len - i ∧ fr = Fr.of 19 h ∧ s = St n g lim rd' wr ∧ h 0 = .slice x len cap ∧ h 3 = .int .i64 (i : Int) ∧ ∀ j, j < i → (ss.getD j nilB).size ≤ 400) ?_ (len - 0) _ _ ⟨0, _, rd, by omega, rfl, rfl, rfl, ?_, ?_, fun j hj => by omega⟩
  case refine_2 => simp (disch := omega) only [upd_same, upd_ne]
  case refine_3 => simp (disch := omega) only [upd_same, upd_ne]; rfl
  rintro m fr s ⟨i, h, rd', hi, rfl, rfl, rfl, h0, h3, hall⟩
  repeat apply W.seq
  apply W.region
  · simp (disch := first | omega | (simp (disch := omega) [ev_tmp, ev_const, get_of, upd_same, upd_ne, h0, h3, Tryd.underlying3, Tryd.underlying83, Tryd.underlying5, Tryd.underlying9, Tryd.underlying4]; done) | (apply inK_i64; omega) | (apply inK_u64; omega)) only [op_len, cond_true, cond_false, pick_on, stepC_if, goC_true, goC_false, guard_tt, guard_tf, guard_ft, guard_ff, slot_zero, slot_succ, put_some, runC_cons, runC_nil, stepC_free, dstC_dst, dstC_none, thenC_some, cop_assign, cop_move, cop_conv, cop_bin, cop_un, cop_pick, cop_index, cop_indexAddr, cop_load, cop_store, cop_alloc, cop_box, cop_build, cop_slice, cop_s2a, cop_field, cop_fieldAddr, cop_extract, cop_nilCheck, cop_call, cop_builtin, cop_buildSlice, ev_tmp, ev_const, ev_global, ev_func, put_of, get_of, upd_same, upd_ne, List.toList_toArray, List.map_cons, List.map_nil, some_map, none_map, ti3, ti83, ti5, ti4, h0, h3, len_sl (ti27 ax), oi_lss]
    with_reducible rfl
  simp only [onN, onB]
  by_cases hlt : (i : Int) < (len : Int)
  case neg =>
    repeat apply W.seq
    refine W.cond (b := false) ?_ ?_
    · simp (disch := omega) only [ev_tmp, get_of, upd_same, upd_ne, hlt, decide_true, decide_false]
    simp only [cond_true, cond_false]
    apply W.exit
    simp only [onN, onB, Nat.beq_refl, cond_true, cond_false, bexit]
    have hie : i = len := by omega
    subst hie
    repeat apply W.seq
    apply W.region
    · simp (disch := first | omega | (simp (disch := omega) [ev_tmp, ev_const, get_of, upd_same, upd_ne, Tryd.underlying3, Tryd.underlying83, Tryd.underlying5, Tryd.underlying9, Tryd.underlying4]; done) | (apply inK_i64; omega) | (apply inK_u64; omega)) only [op_len, cond_true, cond_false, pick_on, stepC_if, goC_true, goC_false, guard_tt, guard_tf, guard_ft, guard_ff, slot_zero, slot_succ, put_some, runC_cons, runC_nil, stepC_free, dstC_dst, dstC_none, thenC_some, cop_assign, cop_move, cop_conv, cop_bin, cop_un, cop_pick, cop_index, cop_indexAddr, cop_load, cop_store, cop_alloc, cop_box, cop_build, cop_slice, cop_s2a, cop_field, cop_fieldAddr, cop_extract, cop_nilCheck, cop_call, cop_builtin, cop_buildSlice, ev_tmp, ev_const, ev_global, ev_func, put_of, get_of, upd_same, upd_ne, List.toList_toArray, List.map_cons, List.map_nil, some_map, none_map, ti3, ti83, ti5, ti4]
      with_reducible rfl
    simp only [onN, onB]
    apply W.ret
    refine ⟨.inr rfl, [.bool true], St n g lim rd' wr, ?_, true, rd', rfl, rfl, fun _ => ⟨by omega, hall⟩⟩
    simp (disch := omega) only [resC, Tryd.results19, get_of, upd_same]
    all_goals rfl
  repeat apply W.seq
  refine W.cond (b := true) ?_ ?_
  · simp (disch := omega) only [ev_tmp, get_of, upd_same, upd_ne, hlt, decide_true, decide_false]
  simp only [cond_true, cond_false]
  apply W.skip
  simp only [onN, onB]
  obtain ⟨p, f, hf, A1, A2⟩ := hs.at (Γ := EE ax) (i := i) (by omega) (ti27 ax) (ti9 ax)
  have A3 := A2 n g lim rd' wr (fun _ _ => rfl)
  repeat apply W.seq
  apply W.block
  repeat apply W.seq
  apply W.region
  · simp (disch := first | omega | (simp (disch := omega) [ev_tmp, ev_const, get_of, upd_same, upd_ne, h0, h3, Tryd.underlying3, Tryd.underlying83, Tryd.underlying5, Tryd.underlying9, Tryd.underlying4]; done) | (apply inK_i64; omega) | (apply inK_u64; omega)) only [op_len, cond_true, cond_false, pick_on, stepC_if, goC_true, goC_false, guard_tt, guard_tf, guard_ft, guard_ff, slot_zero, slot_succ, put_some, runC_cons, runC_nil, stepC_free, dstC_dst, dstC_none, thenC_some, cop_assign, cop_move, cop_conv, cop_bin, cop_un, cop_pick, cop_index, cop_indexAddr, cop_load, cop_store, cop_alloc, cop_box, cop_build, cop_slice, cop_s2a, cop_field, cop_fieldAddr, cop_extract, cop_nilCheck, cop_call, cop_builtin, cop_buildSlice, ev_tmp, ev_const, ev_global, ev_func, put_of, get_of, upd_same, upd_ne, List.toList_toArray, List.map_cons, List.map_nil, some_map, none_map, ti3, ti83, ti5, ti4, h0, h3, natOf_nat, A1, A3, len_str (ti9 ax), oi_gtr]
    with_reducible rfl
  simp only [onN, onB]
  by_cases hbig : (400 : Int) < ((ss.getD i nilB).size : Int)
  · skip
    repeat apply W.seq
    refine W.cond (b := true) ?_ ?_
    · simp (disch := omega) only [ev_tmp, get_of, upd_same, upd_ne, hbig, decide_true, decide_false]
    simp only [cond_true, cond_false]
    repeat apply W.seq
    apply W.region
    · simp (disch := first | omega | (simp (disch := omega) [ev_tmp, ev_const, get_of, upd_same, upd_ne, Tryd.underlying3, Tryd.underlying83, Tryd.underlying5, Tryd.underlying9, Tryd.underlying4]; done) | (apply inK_i64; omega) | (apply inK_u64; omega)) only [op_len, cond_true, cond_false, pick_on, stepC_if, goC_true, goC_false, guard_tt, guard_tf, guard_ft, guard_ff, slot_zero, slot_succ, put_some, runC_cons, runC_nil, stepC_free, dstC_dst, dstC_none, thenC_some, cop_assign, cop_move, cop_conv, cop_bin, cop_un, cop_pick, cop_index, cop_indexAddr, cop_load, cop_store, cop_alloc, cop_box, cop_build, cop_slice, cop_s2a, cop_field, cop_fieldAddr, cop_extract, cop_nilCheck, cop_call, cop_builtin, cop_buildSlice, ev_tmp, ev_const, ev_global, ev_func, put_of, get_of, upd_same, upd_ne, List.toList_toArray, List.map_cons, List.map_nil, some_map, none_map, ti3, ti83, ti5, ti4]
      with_reducible rfl
    simp only [onN, onB]
    apply W.ret
    simp only [onN, onB]
    refine ⟨by simp, [.bool false], St n g lim (ins lim rd' f) wr, ?_, false, _, rfl, rfl, fun h => by simp at h⟩
    simp (disch := omega) only [resC, Tryd.results19, get_of, upd_same]
    all_goals rfl
  repeat apply W.seq
  refine W.cond (b := false) ?_ ?_
  · simp (disch := omega) only [ev_tmp, get_of, upd_same, upd_ne, hbig, decide_true, decide_false]
  simp only [cond_true, cond_false]
  apply W.skip
  simp only [onN, onB]
  repeat apply W.seq
  apply W.region
  · simp (disch := first | omega | (simp (disch := omega) [ev_tmp, ev_const, get_of, upd_same, upd_ne, h3, Tryd.underlying3, Tryd.underlying83, Tryd.underlying5, Tryd.underlying9, Tryd.underlying4]; done) | (apply inK_i64; omega) | (apply inK_u64; omega) | fail) only [op_len, cond_true, cond_false, pick_on, stepC_if, goC_true, goC_false, guard_tt, guard_tf, guard_ft, guard_ff, slot_zero, slot_succ, put_some, runC_cons, runC_nil, stepC_free, dstC_dst, dstC_none, thenC_some, cop_assign, cop_move, cop_conv, cop_bin, cop_un, cop_pick, cop_index, cop_indexAddr, cop_load, cop_store, cop_alloc, cop_box, cop_build, cop_slice, cop_s2a, cop_field, cop_fieldAddr, cop_extract, cop_nilCheck, cop_call, cop_builtin, cop_buildSlice, ev_tmp, ev_const, ev_global, ev_func, put_of, get_of, upd_same, upd_ne, List.toList_toArray, List.map_cons, List.map_nil, some_map, none_map, ti3, ti83, ti5, ti4, oi_add, h3]
    with_reducible rfl
  simp only [onN, onB]
  refine ⟨len - (i + 1), by omega, i + 1, _, _, by omega, rfl, rfl, rfl, ?_, ?_, fun j hj => ?_⟩
  · simp (disch := omega) only [upd_same, upd_ne, h0]
  · simp (disch := omega) only [upd_same, upd_ne]; rfl
  · by_cases hj' : j < i
    · exact hall j hj'
    · have : j = i := by omega
      subst this
      omega
/-- the strings one after the other -/
def joinL (ss : List ByteArray) : Nat → List UInt8
  | 0 => []
  | i + 1 => joinL ss i ++ (ss.getD i nilB).data.toList
theorem joinL_len (ss : List ByteArray) (h : ∀ i, i < ss.length → (ss.getD i nilB).size ≤ 400) : ∀ i, i ≤ ss.length → (joinL ss i).length ≤ 400 * i
  | 0, _ => by simp [joinL]
  | i + 1, hi => by
    have := joinL_len ss h i (by omega)
    have := h i (by omega)
    rw [joinL, List.length_append, str_len]; omega
theorem joinL_take (ss : List ByteArray) (k : Nat) : ∀ i, i ≤ k → joinL (ss.take k) i = joinL ss i
  | 0, _ => rfl
  | i + 1, h => by
    rw [joinL, joinL, joinL_take ss k i (by omega)]
    congr 2
    rw [List.getD_eq_getElem?_getD, List.getD_eq_getElem?_getD, List.getElem?_take_of_lt (by omega)]
set_option maxHeartbeats 1000000 in
theorem joined_run (ax : Axs) (hp : Plain ax) (x : Option Addr) (len cap : Nat) (ss : List ByteArray) (h12 : len ≤ 12) (h400 : ∀ i, i < len → (ss.getD i nilB).size ≤ 400) (n : Nat) (g : Nat → Fam) (lim : Nat) (rd wr : List Nat) (hs : StrArg g n x len cap ss) :
    ∃ rd', callR Tryd.prog (EE ax) 22 [.slice x len cap] (St n g lim rd wr) = some (.string ⟨(joinL ss len).toArray⟩, St n g lim rd' wr) := by
  have hax : ax 22 = none := hp _ (by decide)
  have hsl := hs.1
  suffices hh : ∃ v s2, callR Tryd.prog (EE ax) 22 [.slice x len cap] (St n g lim rd wr) = some (v, s2) ∧ v = .string ⟨(joinL ss len).toArray⟩ ∧ ∃ rd', s2 = St n g lim rd' wr by
    obtain ⟨v, s2, h1, rfl, rd', rfl⟩ := hh
    exact ⟨rd', h1⟩
  refine callR_ex (fn := Tryd.f22) 18 hax (fn22 ax) rfl Tryd.ntmps22 (by simp) ?_
  simp (disch := omega) only [ofArgs_cons, ofArgs_nil, Nat.reduceAdd]
  repeat apply W.seq
  apply W.region
  · simp (disch := first | omega | (simp (disch := omega) [ev_tmp, ev_const, get_of, upd_same, upd_ne, Tryd.underlying3, Tryd.underlying83, Tryd.underlying5, Tryd.underlying9, Tryd.underlying4]; done) | (apply inK_i64; omega) | (apply inK_u64; omega)) only [op_len, cond_true, cond_false, pick_on, stepC_if, goC_true, goC_false, guard_tt, guard_tf, guard_ft, guard_ff, slot_zero, slot_succ, put_some, runC_cons, runC_nil, stepC_free, dstC_dst, dstC_none, thenC_some, cop_assign, cop_move, cop_conv, cop_bin, cop_un, cop_pick, cop_index, cop_indexAddr, cop_load, cop_store, cop_alloc, cop_box, cop_build, cop_slice, cop_s2a, cop_field, cop_fieldAddr, cop_extract, cop_nilCheck, cop_call, cop_builtin, cop_buildSlice, ev_tmp, ev_const, ev_global, ev_func, put_of, get_of, upd_same, upd_ne, List.toList_toArray, List.map_cons, List.map_nil, some_map, none_map, ti3, ti83, ti5, ti4]
    with_reducible rfl
  simp only [onN, onB]
  repeat apply W.seq
  apply W.region
  · simp (disch := first | omega | (simp (disch := omega) [ev_tmp, ev_const, get_of, upd_same, upd_ne, Tryd.underlying3, Tryd.underlying83, Tryd.underlying5, Tryd.underlying9, Tryd.underlying4]; done) | (apply inK_i64; omega) | (apply inK_u64; omega)) only [op_len, cond_true, cond_false, pick_on, stepC_if, goC_true, goC_false, guard_tt, guard_tf, guard_ft, guard_ff, slot_zero, slot_succ, put_some, runC_cons, runC_nil, stepC_free, dstC_dst, dstC_none, thenC_some, cop_assign, cop_move, cop_conv, cop_bin, cop_un, cop_pick, cop_index, cop_indexAddr, cop_load, cop_store, cop_alloc, cop_box, cop_build, cop_slice, cop_s2a, cop_field, cop_fieldAddr, cop_extract, cop_nilCheck, cop_call, cop_builtin, cop_buildSlice, ev_tmp, ev_const, ev_global, ev_func, put_of, get_of, upd_same, upd_ne, List.toList_toArray, List.map_cons, List.map_nil, some_map, none_map, ti3, ti83, ti5, ti4]
    with_reducible rfl
  simp only [onN, onB]
  repeat apply W.seq
  apply W.region
  · simp (disch := first | omega | (simp (disch := omega) [ev_tmp, ev_const, get_of, upd_same, upd_ne, Tryd.underlying3, Tryd.underlying83, Tryd.underlying5, Tryd.underlying9, Tryd.underlying4]; done) | (apply inK_i64; omega) | (apply inK_u64; omega)) only [op_len, cond_true, cond_false, pick_on, stepC_if, goC_true, goC_false, guard_tt, guard_tf, guard_ft, guard_ff, slot_zero, slot_succ, put_some, runC_cons, runC_nil, stepC_free, dstC_dst, dstC_none, thenC_some, cop_assign, cop_move, cop_conv, cop_bin, cop_un, cop_pick, cop_index, cop_indexAddr, cop_load, cop_store, cop_alloc, cop_box, cop_build, cop_slice, cop_s2a, cop_field, cop_fieldAddr, cop_extract, cop_nilCheck, cop_call, cop_builtin, cop_buildSlice, ev_tmp, ev_const, ev_global, ev_func, put_of, get_of, upd_same, upd_ne, List.toList_toArray, List.map_cons, List.map_nil, some_map, none_map, ti3, ti83, ti5, ti4]
    with_reducible rfl
  simp only [onN, onB]
  repeat apply W.seq
  apply W.block
  refine W.loop (fun m fr s => ∃ (i : Nat) (h : Nat → Value) (rd' : List Nat), i ≤ len ∧ m = len - i ∧ fr = Fr.of 18 h ∧ s = St n g lim rd' wr ∧ h 0 = .slice x len cap ∧ h 4 = .int .i64 (i : Int) ∧ h 3 = .string ⟨(joinL ss i).toArray⟩) ?_ (len - 0) _ _ ⟨0, _, rd, by omega, rfl, rfl, rfl, ?_, ?_, ?_⟩
  case refine_2 => simp (disch := omega) only [upd_same, upd_ne]
  case refine_3 => simp (disch := omega) only [upd_same, upd_ne]; rfl
  case refine_4 => simp (disch := omega) only [upd_same, upd_ne]; rfl
  rintro m fr s ⟨i, h, rd', hi, rfl, rfl, rfl, h0, h4, h3⟩
  repeat apply W.seq
  apply W.region
  · simp (disch := first | omega | (simp (disch := omega) [ev_tmp, ev_const, get_of, upd_same, upd_ne, h0, h4, Tryd.underlying3, Tryd.underlying83, Tryd.underlying5, Tryd.underlying9, Tryd.underlying4]; done) | (apply inK_i64; omega) | (apply inK_u64; omega)) only [op_len, cond_true, cond_false, pick_on, stepC_if, goC_true, goC_false, guard_tt, guard_tf, guard_ft, guard_ff, slot_zero, slot_succ, put_some, runC_cons, runC_nil, stepC_free, dstC_dst, dstC_none, thenC_some, cop_assign, cop_move, cop_conv, cop_bin, cop_un, cop_pick, cop_index, cop_indexAddr, cop_load, cop_store, cop_alloc, cop_box, cop_build, cop_slice, cop_s2a, cop_field, cop_fieldAddr, cop_extract, cop_nilCheck, cop_call, cop_builtin, cop_buildSlice, ev_tmp, ev_const, ev_global, ev_func, put_of, get_of, upd_same, upd_ne, List.toList_toArray, List.map_cons, List.map_nil, some_map, none_map, ti3, ti83, ti5, ti4, h0, h4, len_sl (ti27 ax), oi_lss]
    with_reducible rfl
  simp only [onN, onB]
  by_cases hlt : (i : Int) < (len : Int)
  case neg =>
    repeat apply W.seq
    refine W.cond (b := false) ?_ ?_
    · simp (disch := omega) only [ev_tmp, get_of, upd_same, upd_ne, hlt, decide_true, decide_false]
    simp only [cond_true, cond_false]
    apply W.exit
    simp only [onN, onB, Nat.beq_refl, cond_true, cond_false, bexit]
    have hie : i = len := by omega
    subst hie
    repeat apply W.seq
    apply W.region
    · simp (disch := first | omega | (simp (disch := omega) [ev_tmp, ev_const, get_of, upd_same, upd_ne, h3, Tryd.underlying3, Tryd.underlying83, Tryd.underlying5, Tryd.underlying9, Tryd.underlying4]; done) | (apply inK_i64; omega) | (apply inK_u64; omega)) only [op_len, cond_true, cond_false, pick_on, stepC_if, goC_true, goC_false, guard_tt, guard_tf, guard_ft, guard_ff, slot_zero, slot_succ, put_some, runC_cons, runC_nil, stepC_free, dstC_dst, dstC_none, thenC_some, cop_assign, cop_move, cop_conv, cop_bin, cop_un, cop_pick, cop_index, cop_indexAddr, cop_load, cop_store, cop_alloc, cop_box, cop_build, cop_slice, cop_s2a, cop_field, cop_fieldAddr, cop_extract, cop_nilCheck, cop_call, cop_builtin, cop_buildSlice, ev_tmp, ev_const, ev_global, ev_func, put_of, get_of, upd_same, upd_ne, List.toList_toArray, List.map_cons, List.map_nil, some_map, none_map, ti3, ti83, ti5, ti4, h3]
      with_reducible rfl
    simp only [onN, onB]
    apply W.ret
    refine ⟨.inr rfl, [.string ⟨(joinL ss i).toArray⟩], St n g lim rd' wr, ?_, rfl, rd', rfl⟩
    simp (disch := omega) only [resC, Tryd.results22, get_of, upd_same]
    all_goals rfl
  repeat apply W.seq
  refine W.cond (b := true) ?_ ?_
  · simp (disch := omega) only [ev_tmp, get_of, upd_same, upd_ne, hlt, decide_true, decide_false]
  simp only [cond_true, cond_false]
  apply W.skip
  simp only [onN, onB]
  obtain ⟨p, f, hf, A1, A2⟩ := hs.at (Γ := EE ax) (i := i) (by omega) (ti27 ax) (ti9 ax)
  have A3 := A2 n g lim rd' wr (fun _ _ => rfl)
  have hj : ByteArray.mk (joinL ss i).toArray ++ ss.getD i nilB = ⟨(joinL ss (i + 1)).toArray⟩ := by
    apply ByteArray.ext
    apply Array.toList_inj.1
    rw [joinL]
    simp [ByteArray.data_append]
  have hjl := joinL_len ss (fun i hi => h400 i (by omega)) i (by omega)
  have hjs : (ByteArray.mk (joinL ss i).toArray).size = (joinL ss i).length := mk_size _
  have h4i := h400 i (by omega)
  repeat apply W.seq
  apply W.block
  repeat apply W.seq
  apply W.region
  · simp (disch := first | omega | (simp (disch := omega) [ev_tmp, ev_const, get_of, upd_same, upd_ne, h0, h3, h4, Tryd.underlying3, Tryd.underlying83, Tryd.underlying5, Tryd.underlying9, Tryd.underlying4]; done) | (apply inK_i64; omega) | (apply inK_u64; omega) | (rw [hjs]; omega)) only [op_len, cond_true, cond_false, pick_on, stepC_if, goC_true, goC_false, guard_tt, guard_tf, guard_ft, guard_ff, slot_zero, slot_succ, put_some, runC_cons, runC_nil, stepC_free, dstC_dst, dstC_none, thenC_some, cop_assign, cop_move, cop_conv, cop_bin, cop_un, cop_pick, cop_index, cop_indexAddr, cop_load, cop_store, cop_alloc, cop_box, cop_build, cop_slice, cop_s2a, cop_field, cop_fieldAddr, cop_extract, cop_nilCheck, cop_call, cop_builtin, cop_buildSlice, ev_tmp, ev_const, ev_global, ev_func, put_of, get_of, upd_same, upd_ne, List.toList_toArray, List.map_cons, List.map_nil, some_map, none_map, ti3, ti83, ti5, ti4, h0, h3, h4, natOf_nat, A1, A3, os_add, hj]
    with_reducible rfl
  simp only [onN, onB]
  repeat apply W.seq
  apply W.region
  · simp (disch := first | omega | (simp (disch := omega) [ev_tmp, ev_const, get_of, upd_same, upd_ne, h4, Tryd.underlying3, Tryd.underlying83, Tryd.underlying5, Tryd.underlying9, Tryd.underlying4]; done) | (apply inK_i64; omega) | (apply inK_u64; omega)) only [op_len, cond_true, cond_false, pick_on, stepC_if, goC_true, goC_false, guard_tt, guard_tf, guard_ft, guard_ff, slot_zero, slot_succ, put_some, runC_cons, runC_nil, stepC_free, dstC_dst, dstC_none, thenC_some, cop_assign, cop_move, cop_conv, cop_bin, cop_un, cop_pick, cop_index, cop_indexAddr, cop_load, cop_store, cop_alloc, cop_box, cop_build, cop_slice, cop_s2a, cop_field, cop_fieldAddr, cop_extract, cop_nilCheck, cop_call, cop_builtin, cop_buildSlice, ev_tmp, ev_const, ev_global, ev_func, put_of, get_of, upd_same, upd_ne, List.toList_toArray, List.map_cons, List.map_nil, some_map, none_map, ti3, ti83, ti5, ti4, oi_add, h4]
    with_reducible rfl
  simp only [onN, onB]
  refine ⟨len - (i + 1), by omega, i + 1, _, _, by omega, rfl, rfl, rfl, ?_, ?_, ?_⟩
  · simp (disch := omega) only [upd_same, upd_ne, h0]
  · simp (disch := omega) only [upd_same, upd_ne]; rfl
  · simp (disch := omega) only [upd_same, upd_ne]
end Go.Proofs.YtcmfoipnoejmlaaDoor
