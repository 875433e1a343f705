/- The law HashStreamsAgree in the plain machine. -/
import Derived.Test.YtcmfoipnoejmlaaDoorHash18
import Derived.Test.YtcmfoipnoejmlaaDoorLSm
namespace Go.Proofs.YtcmfoipnoejmlaaDoor
open Go Go.RowKit
set_option linter.unusedSimpArgs false
set_option linter.unusedVariables false
set_option maxRecDepth 100000
theorem un_not {P : Program} {ρ : Operand → Value} {o : Oper} {s : CS} {b : Bool} : orPure P ρ o s (unC .not (.bool b)) = some (.bool (!b), s) := Eq.trans rfl rfl
theorem conv_bi {P : Program} {Γ : Env} {ρ : Operand → Value} {s : CS} {src dst ty : TypeId} {d : Option Tmp} {pos : String} {e : Array Edge} {q : Option (Nat × Bool)} {x : Operand} {z b z2 b2 : Nat} {zs zs2 : List Value} {c : UInt8} (hs : Γ.ti.at src = some ⟨.int .u8, z, b, zs⟩) (hd : Γ.ti.at dst = some ⟨.int .i64, z2, b2, zs2⟩) (ps : (P.underlying src).isSome = true) (pd : P.underlying dst = some (.int .i64)) (hx : ρ x = vb c) : opConvert P Γ ρ ⟨d, .convert src dst x, ty, pos, e, q⟩ s src dst (vb c) = some (.int .i64 (c.toNat : Int), s) := by
  have hw : IntKind.i64.wrap (c.toNat : Int) = (c.toNat : Int) := inK_i64 (by have := c.toNat_lt; omega)
  unfold opConvert
  rw [hs, hd]
  show orPure P ρ _ s (convI .i64 (c.toNat : Int)) = _
  rw [oc_int ⟨_, hx⟩ ps pd, hw]
theorem StrArg.take {Γ : Env} {g : Nat → Fam} {n len cap k : Nat} {x : Option Addr} {ss : List ByteArray} {t e : TypeId} {z b b2 : Nat} {zs zs2 : List Value} (h : StrArg g n x len cap ss) (hk : k ≤ len) (ht : Γ.ti.at t = some ⟨.slice e, z, b, zs⟩) (he : Γ.ti.at e = some ⟨.string, 1, b2, zs2⟩) :
    ∃ x', (∀ s, opSlice Γ s t (.slice x len cap) none (some (.int .i64 (k : Int))) none = some (.slice x' k cap, s)) ∧ StrArg g n x' k cap (ss.take k) := by
  obtain ⟨h1, h2, ⟨rfl, rfl, rfl⟩ | ⟨f, u, off, rfl, k2, k3⟩⟩ := h
  · have : k = 0 := by omega
    subst this
    exact ⟨none, fun s => slice_none ht he (bounds_h (natOf_nat _ _) (Nat.le_refl _)), by simp, Nat.le_refl _, .inl ⟨rfl, rfl, rfl⟩⟩
  · refine ⟨some (mkA f u (off + 0 * 1)), fun s => slice_sl ht he (bounds_h (natOf_nat _ _) (by omega)) (.inl k2), by rw [List.length_take]; omega, by omega, .inr ⟨f, u, off + 0 * 1, rfl, k2, ?_⟩⟩
    rcases k3 with k3 | ⟨k4, cs, k5, k6⟩
    · exact .inl (by omega)
    · refine .inr ⟨k4, cs, k5, fun i hi => ?_⟩
      have := k6 i (by omega)
      rw [show off + 0 * 1 + i = off + i by omega, this]
      congr 2
      rw [List.getD_eq_getElem?_getD, List.getD_eq_getElem?_getD, List.getElem?_take_of_lt hi]
set_option maxHeartbeats 8000000 in
theorem st_law (x : Option Addr) (len cap : Nat) (ss : List ByteArray) (o : ByteArray) (a : UInt8) (n : Nat) (g : Nat → Fam) (hs : StrArg g n x len cap ss) (hG : 1 < n) (hG0 : 0 < n) (hk : rowOf (g 1).rows (1 * 1024) = some kcells) (hk0 : rowOf (g 0).rows (0 * 1024) = some kcells) :
    ∃ v s2, callR Tryd.prog (EE axH) 4 [.slice x len cap, .string o, vb a] (St n g 0 [] []) = some (v, s2) ∧ v = .bool true := by
  have hax : axH 4 = none := axH_plain _ (by decide)
  have SAN : callR Tryd.prog (EE axH) 16 [] (St n g 0 [] []) = some (.bool true, St n g 0 (ins 0 [] 1) []) := sane_run _ hk
  have hkw : rowOf (g 1).rows (1 * 1024) = some (wvs KW) := by rw [hk, kcells_eq]
  have hkw0 : rowOf (g 0).rows (0 * 1024) = some (wvs KW) := by rw [hk0, kcells_eq]
  obtain ⟨fw, rdf, ef, hfew⟩ := few_run axH axH_plain x len cap ss n g 0 (ins 0 [] 1) [] hs
  have hsl := hs.1
  refine callR_ex (fn := Tryd.f4) 102 hax (fn4 axH) rfl Tryd.ntmps4 (by simp) ?_
  simp (disch := omega) only [ofArgs_cons, ofArgs_nil, Nat.reduceAdd]
  repeat apply W.seq
  apply W.region
  · simp (disch := first | omega | (simp (disch := omega) [ev_tmp, ev_const, get_of, upd_same, upd_ne, Tryd.underlying3, Tryd.underlying9, Tryd.underlying4, Tryd.underlying5, Tryd.underlying22, Tryd.underlying24]; done) | (apply inK_i64; omega) | (apply inK_u64; omega)) only [op_len, cond_true, cond_false, pick_on, stepC_if, goC_true, goC_false, guard_tt, guard_tf, guard_ft, guard_ff, slot_zero, slot_succ, put_some, runC_cons, runC_nil, stepC_free, dstC_dst, dstC_none, thenC_some, cop_assign, cop_move, cop_conv, cop_bin, cop_un, cop_pick, cop_index, cop_indexAddr, cop_load, cop_store, cop_alloc, cop_box, cop_build, cop_slice, cop_s2a, cop_field, cop_fieldAddr, cop_extract, cop_nilCheck, cop_call, cop_builtin, cop_buildSlice, ev_tmp, ev_const, ev_global, ev_func, put_of, get_of, upd_same, upd_ne, List.toList_toArray, List.map_cons, List.map_nil, some_map, none_map, ti3, ti4]
    with_reducible rfl
  simp only [onN, onB]
  repeat apply W.seq
  apply W.region
  · simp (disch := first | omega | (simp (disch := omega) [ev_tmp, ev_const, get_of, upd_same, upd_ne, Tryd.underlying3, Tryd.underlying9, Tryd.underlying4, Tryd.underlying5, Tryd.underlying22, Tryd.underlying24]; done) | (apply inK_i64; omega) | (apply inK_u64; omega)) only [op_len, cond_true, cond_false, pick_on, stepC_if, goC_true, goC_false, guard_tt, guard_tf, guard_ft, guard_ff, slot_zero, slot_succ, put_some, runC_cons, runC_nil, stepC_free, dstC_dst, dstC_none, thenC_some, cop_assign, cop_move, cop_conv, cop_bin, cop_un, cop_pick, cop_index, cop_indexAddr, cop_load, cop_store, cop_alloc, cop_box, cop_build, cop_slice, cop_s2a, cop_field, cop_fieldAddr, cop_extract, cop_nilCheck, cop_call, cop_builtin, cop_buildSlice, ev_tmp, ev_const, ev_global, ev_func, put_of, get_of, upd_same, upd_ne, List.toList_toArray, List.map_cons, List.map_nil, some_map, none_map, ti3, ti4, SAN]
    with_reducible rfl
  simp only [onN, onB]
  by_cases hbig : fw = false ∨ (400 : Int) < o.size
  · repeat apply W.seq
    refine (W.region_ex (fun fr s => ∃ h, fr = Fr.of 102 h ∧ h 7 = .bool true ∧ h 24 = .bool true) ?_ ?_)
    · cases fw with
      | false =>
        apply Exists.intro
        apply And.intro
        · simp (disch := first | omega | (simp (disch := omega) [ev_tmp, ev_const, get_of, upd_same, upd_ne, Tryd.underlying3, Tryd.underlying9, Tryd.underlying4, Tryd.underlying5, Tryd.underlying22, Tryd.underlying24]; done) | (apply inK_i64; omega) | (apply inK_u64; omega)) only [op_len, cond_true, cond_false, pick_on, stepC_if, goC_true, goC_false, guard_tt, guard_tf, guard_ft, guard_ff, slot_zero, slot_succ, put_some, runC_cons, runC_nil, stepC_free, dstC_dst, dstC_none, thenC_some, cop_assign, cop_move, cop_conv, cop_bin, cop_un, cop_pick, cop_index, cop_indexAddr, cop_load, cop_store, cop_alloc, cop_box, cop_build, cop_slice, cop_s2a, cop_field, cop_fieldAddr, cop_extract, cop_nilCheck, cop_call, cop_builtin, cop_buildSlice, ev_tmp, ev_const, ev_global, ev_func, put_of, get_of, upd_same, upd_ne, List.toList_toArray, List.map_cons, List.map_nil, some_map, none_map, ti3, ti4, ef, un_not, Bool.not_false]
          with_reducible rfl
        · exact ⟨_, rfl, by simp (disch := omega) only [upd_same, upd_ne], by simp (disch := omega) only [upd_same, upd_ne]⟩
      | true =>
        have x2 : decide ((400 : Int) < o.size) = true := decide_eq_true (by rcases hbig with h | h; simp at h; exact h)
        apply Exists.intro
        apply And.intro
        · simp (disch := first | omega | (simp (disch := omega) [ev_tmp, ev_const, get_of, upd_same, upd_ne, Tryd.underlying3, Tryd.underlying9, Tryd.underlying4, Tryd.underlying5, Tryd.underlying22, Tryd.underlying24]; done) | (apply inK_i64; omega) | (apply inK_u64; omega)) only [op_len, cond_true, cond_false, pick_on, stepC_if, goC_true, goC_false, guard_tt, guard_tf, guard_ft, guard_ff, slot_zero, slot_succ, put_some, runC_cons, runC_nil, stepC_free, dstC_dst, dstC_none, thenC_some, cop_assign, cop_move, cop_conv, cop_bin, cop_un, cop_pick, cop_index, cop_indexAddr, cop_load, cop_store, cop_alloc, cop_box, cop_build, cop_slice, cop_s2a, cop_field, cop_fieldAddr, cop_extract, cop_nilCheck, cop_call, cop_builtin, cop_buildSlice, ev_tmp, ev_const, ev_global, ev_func, put_of, get_of, upd_same, upd_ne, List.toList_toArray, List.map_cons, List.map_nil, some_map, none_map, ti3, ti4, ef, un_not, Bool.not_true, oi_gtr, len_str (ti9 axH), x2]
          with_reducible rfl
        · exact ⟨_, rfl, by simp (disch := omega) only [upd_same, upd_ne], by simp (disch := omega) only [upd_same, upd_ne]⟩
    rintro fr s ⟨h, rfl, h7, h24⟩
    simp only [onN]
    repeat apply W.seq
    refine W.cond (b := true) ?_ ?_
    · simp (disch := omega) only [ev_tmp, get_of, upd_same, upd_ne, h24, decide_true, decide_false]
    simp only [cond_true, cond_false]
    repeat apply W.seq
    apply W.region
    · simp (disch := first | omega | (simp (disch := omega) [ev_tmp, ev_const, get_of, upd_same, upd_ne, h7, Tryd.underlying3, Tryd.underlying9, Tryd.underlying4, Tryd.underlying5, Tryd.underlying22, Tryd.underlying24]; done) | (apply inK_i64; omega) | (apply inK_u64; omega)) only [op_len, cond_true, cond_false, pick_on, stepC_if, goC_true, goC_false, guard_tt, guard_tf, guard_ft, guard_ff, slot_zero, slot_succ, put_some, runC_cons, runC_nil, stepC_free, dstC_dst, dstC_none, thenC_some, cop_assign, cop_move, cop_conv, cop_bin, cop_un, cop_pick, cop_index, cop_indexAddr, cop_load, cop_store, cop_alloc, cop_box, cop_build, cop_slice, cop_s2a, cop_field, cop_fieldAddr, cop_extract, cop_nilCheck, cop_call, cop_builtin, cop_buildSlice, ev_tmp, ev_const, ev_global, ev_func, put_of, get_of, upd_same, upd_ne, List.toList_toArray, List.map_cons, List.map_nil, some_map, none_map, ti3, ti4, h7]
      with_reducible rfl
    simp only [onN, onB]
    apply W.ret
    refine ⟨.inr rfl, [.bool true], ?_⟩
    apply Exists.intro
    apply And.intro
    · simp (disch := omega) only [resC, Tryd.results4, get_of, upd_same]
      all_goals rfl
    · rfl
  have hfw : fw = true := by cases fw; exact absurd (.inl rfl) hbig; rfl
  subst hfw
  obtain ⟨h12, h400⟩ := hfew rfl
  have ho : ¬ (400 : Int) < o.size := fun h => hbig (.inr h)
  have x2 : decide ((400 : Int) < o.size) = false := decide_eq_false ho
  clear hbig hfew
  repeat apply W.seq
  apply W.region
  · simp (disch := first | omega | (simp (disch := omega) [ev_tmp, ev_const, get_of, upd_same, upd_ne, Tryd.underlying3, Tryd.underlying9, Tryd.underlying4, Tryd.underlying5, Tryd.underlying22, Tryd.underlying24]; done) | (apply inK_i64; omega) | (apply inK_u64; omega)) only [op_len, cond_true, cond_false, pick_on, stepC_if, goC_true, goC_false, guard_tt, guard_tf, guard_ft, guard_ff, slot_zero, slot_succ, put_some, runC_cons, runC_nil, stepC_free, dstC_dst, dstC_none, thenC_some, cop_assign, cop_move, cop_conv, cop_bin, cop_un, cop_pick, cop_index, cop_indexAddr, cop_load, cop_store, cop_alloc, cop_box, cop_build, cop_slice, cop_s2a, cop_field, cop_fieldAddr, cop_extract, cop_nilCheck, cop_call, cop_builtin, cop_buildSlice, ev_tmp, ev_const, ev_global, ev_func, put_of, get_of, upd_same, upd_ne, List.toList_toArray, List.map_cons, List.map_nil, some_map, none_map, ti3, ti4, ef, un_not, Bool.not_true, oi_gtr, len_str (ti9 axH), x2]
    with_reducible rfl
  simp only [onN, onB]
  repeat apply W.seq
  refine W.cond (b := false) ?_ ?_
  · simp (disch := omega) only [ev_tmp, get_of, upd_same, upd_ne, cond_true, decide_true, decide_false]
  simp only [cond_true, cond_false]
  apply W.skip
  simp only [onN, onB]
  have c1 : ((len : Nat) : Int) + 1 = ((len + 1 : Nat) : Int) := by omega
  have c2 : ((a.toNat : Nat) : Int) % ((len + 1 : Nat) : Int) = ((a.toNat % (len + 1) : Nat) : Int) := by omega
  repeat apply W.seq
  apply W.region
  · simp (disch := first | omega | (simp (disch := omega) [ev_tmp, ev_const, get_of, upd_same, upd_ne, Tryd.underlying3, Tryd.underlying9, Tryd.underlying4, Tryd.underlying5, Tryd.underlying22, Tryd.underlying24]; done) | (apply inK_i64; omega) | (apply inK_u64; omega) | (rw [c1]; apply inK_i64; omega)) only [op_len, cond_true, cond_false, pick_on, stepC_if, goC_true, goC_false, guard_tt, guard_tf, guard_ft, guard_ff, slot_zero, slot_succ, put_some, runC_cons, runC_nil, stepC_free, dstC_dst, dstC_none, thenC_some, cop_assign, cop_move, cop_conv, cop_bin, cop_un, cop_pick, cop_index, cop_indexAddr, cop_load, cop_store, cop_alloc, cop_box, cop_build, cop_slice, cop_s2a, cop_field, cop_fieldAddr, cop_extract, cop_nilCheck, cop_call, cop_builtin, cop_buildSlice, ev_tmp, ev_const, ev_global, ev_func, put_of, get_of, upd_same, upd_ne, List.toList_toArray, List.map_cons, List.map_nil, some_map, none_map, ti3, ti4, conv_bi (ti5 axH) (ti3 axH), len_sl (ti27 axH), oi_add, c1, oi_rem, c2]
    with_reducible rfl
  simp only [onN, onB]
  have hKl : a.toNat % (len + 1) ≤ len := by have := Nat.mod_lt a.toNat (show 0 < len + 1 by omega); omega
  generalize hKd : a.toNat % (len + 1) = K at *
  obtain ⟨f9, g1, rd1, e1, a1, a2, -⟩ := begin_run axH axH_plain n g 0 rdf [] (Nat.zero_le _)
  have S1 := st_all (n := f9 + 1) (lim := 0) (rd := rd1) (wr := []) (tiS_at axH) (g := fupd g1 f9 ⟨false, [(f9 * 1024 + 0, cellsS (List.replicate 8 0) (List.replicate 64 0) 0)], none⟩) (f := f9) (u := f9 * 1024 + 0) (vs := cellsS IVW (List.replicate 64 0) 0) (fupd_same _ _ _) (cellsS_len rfl rfl) (cellsS_len rfl rfl) (cellsS_one _ _ _)
  rw [fupd_fupd] at S1
  unfold strV at e1
  repeat apply W.seq
  apply W.region
  · simp (disch := first | omega | (simp (disch := omega) [ev_tmp, ev_const, get_of, upd_same, upd_ne, Tryd.underlying3, Tryd.underlying9, Tryd.underlying4, Tryd.underlying5, Tryd.underlying22, Tryd.underlying24]; done) | (apply inK_i64; omega) | (apply inK_u64; omega)) only [op_len, cond_true, cond_false, pick_on, stepC_if, goC_true, goC_false, guard_tt, guard_tf, guard_ft, guard_ff, slot_zero, slot_succ, put_some, runC_cons, runC_nil, stepC_free, dstC_dst, dstC_none, thenC_some, cop_assign, cop_move, cop_conv, cop_bin, cop_un, cop_pick, cop_index, cop_indexAddr, cop_load, cop_store, cop_alloc, cop_box, cop_build, cop_slice, cop_s2a, cop_field, cop_fieldAddr, cop_extract, cop_nilCheck, cop_call, cop_builtin, cop_buildSlice, ev_tmp, ev_const, ev_global, ev_func, put_of, get_of, upd_same, upd_ne, List.toList_toArray, List.map_cons, List.map_nil, some_map, none_map, ti3, ti4, e1, alloc_st (tiS_at axH), cells_agg, S1]
    with_reducible rfl
  simp only [onN, onB]
  generalize hg2 : fupd g1 f9 ⟨false, [(f9 * 1024 + 0, cellsS IVW (List.replicate 64 0) 0)], none⟩ = g2
  have p9 : g2 f9 = ⟨false, [(f9 * 1024 + 0, cellsS IVW (List.replicate 64 0) 0)], none⟩ := by rw [← hg2, fupd_same]
  have p0 : ∀ i, i < n → g2 i = g i := fun i hi => by rw [← hg2, fupd_ne _ _ _ _ (by omega), a2 _ hi]
  clear hg2 S1 e1
  apply W.seq
  refine W.cut (fun fr s => ∃ (h : Nat → Value) (N : Nat) (g' : Nat → Fam) (rd' wr' : List Nat), fr = Fr.of 102 h ∧ s = St N g' 0 rd' wr' ∧ f9 < N ∧ (h 0 = .slice x len cap ∧ h 1 = .string o ∧ h 7 = .bool true ∧ h 8 = .int .i64 (K : Int) ∧ h 9 = .pointer (some (mkA f9 (f9 * 1024 + 0) 0))) ∧ (∀ i, i < n → g' i = g i) ∧ ∃ st blk, Repr (joinL ss K) st blk ∧ g' f9 = ⟨false, [(f9 * 1024 + 0, cellsS st blk ((joinL ss K)).length)], none⟩) ?_ ?_
  · skip
    repeat apply W.seq
    apply W.region
    · simp (disch := first | omega | (simp (disch := omega) [ev_tmp, ev_const, get_of, upd_same, upd_ne, Tryd.underlying3, Tryd.underlying9, Tryd.underlying4, Tryd.underlying5, Tryd.underlying22, Tryd.underlying24]; done) | (apply inK_i64; omega) | (apply inK_u64; omega)) only [op_len, cond_true, cond_false, pick_on, stepC_if, goC_true, goC_false, guard_tt, guard_tf, guard_ft, guard_ff, slot_zero, slot_succ, put_some, runC_cons, runC_nil, stepC_free, dstC_dst, dstC_none, thenC_some, cop_assign, cop_move, cop_conv, cop_bin, cop_un, cop_pick, cop_index, cop_indexAddr, cop_load, cop_store, cop_alloc, cop_box, cop_build, cop_slice, cop_s2a, cop_field, cop_fieldAddr, cop_extract, cop_nilCheck, cop_call, cop_builtin, cop_buildSlice, ev_tmp, ev_const, ev_global, ev_func, put_of, get_of, upd_same, upd_ne, List.toList_toArray, List.map_cons, List.map_nil, some_map, none_map, ti3, ti4]
      with_reducible rfl
    simp only [onN, onB]
    repeat apply W.seq
    apply W.block
    refine W.loop (fun m fr s => ∃ (i : Nat) (h : Nat → Value) (N : Nat) (g' : Nat → Fam) (rd' wr' : List Nat), i ≤ K ∧ m = K - i ∧ fr = Fr.of 102 h ∧ s = St N g' 0 rd' wr' ∧ f9 < N ∧ (h 0 = .slice x len cap ∧ h 1 = .string o ∧ h 7 = .bool true ∧ h 8 = .int .i64 (K : Int) ∧ h 9 = .pointer (some (mkA f9 (f9 * 1024 + 0) 0))) ∧ h 10 = .int .i64 (i : Int) ∧ (∀ i, i < n → g' i = g i) ∧ ∃ st blk, Repr (joinL ss i) st blk ∧ g' f9 = ⟨false, [(f9 * 1024 + 0, cellsS st blk ((joinL ss i)).length)], none⟩) ?_ (K - 0) _ _ ⟨0, _, f9 + 1, g2, _, _, by omega, rfl, rfl, rfl, by omega, ⟨?_, ?_, ?_, ?_, ?_⟩, ?_, p0, IVW, List.replicate 64 0, Repr.start _ rfl, p9⟩
    case refine_2 => simp (disch := omega) only [upd_same, upd_ne]
    case refine_3 => simp (disch := omega) only [upd_same, upd_ne]
    case refine_4 => simp (disch := omega) only [upd_same, upd_ne]
    case refine_5 => simp (disch := omega) only [upd_same, upd_ne]
    case refine_6 => simp (disch := omega) only [upd_same, upd_ne]
    case refine_7 => simp (disch := omega) only [upd_same, upd_ne]; rfl
    rintro m fr s ⟨i, h, N, g', rd', wr', hi, rfl, rfl, rfl, hN, ⟨h0, h1, h7, h8, h9⟩, h10, q0, st, blk, hR, q9⟩
    repeat apply W.seq
    apply W.region
    · simp (disch := first | omega | (simp (disch := omega) [ev_tmp, ev_const, get_of, upd_same, upd_ne, h8, h10, Tryd.underlying3, Tryd.underlying9, Tryd.underlying4, Tryd.underlying5, Tryd.underlying22, Tryd.underlying24]; done) | (apply inK_i64; omega) | (apply inK_u64; omega)) only [op_len, cond_true, cond_false, pick_on, stepC_if, goC_true, goC_false, guard_tt, guard_tf, guard_ft, guard_ff, slot_zero, slot_succ, put_some, runC_cons, runC_nil, stepC_free, dstC_dst, dstC_none, thenC_some, cop_assign, cop_move, cop_conv, cop_bin, cop_un, cop_pick, cop_index, cop_indexAddr, cop_load, cop_store, cop_alloc, cop_box, cop_build, cop_slice, cop_s2a, cop_field, cop_fieldAddr, cop_extract, cop_nilCheck, cop_call, cop_builtin, cop_buildSlice, ev_tmp, ev_const, ev_global, ev_func, put_of, get_of, upd_same, upd_ne, List.toList_toArray, List.map_cons, List.map_nil, some_map, none_map, ti3, ti4, h8, h10, oi_lss]
      with_reducible rfl
    simp only [onN, onB]
    by_cases hlt : (i : Int) < (K : Int)
    case neg =>
      repeat apply W.seq
      refine W.cond (b := false) ?_ ?_
      · simp (disch := omega) only [ev_tmp, get_of, upd_same, upd_ne, hlt, decide_true, decide_false]
      simp only [cond_true, cond_false]
      apply W.exit
      simp only [onN, onB, Nat.beq_refl, cond_true]
      have hie : i = K := by omega
      subst hie
      exact ⟨by first | rfl | trivial, _, N, g', rd', wr', rfl, rfl, hN, ⟨by simp (disch := omega) only [upd_same, upd_ne, h0], by simp (disch := omega) only [upd_same, upd_ne, h1], by simp (disch := omega) only [upd_same, upd_ne, h7], by simp (disch := omega) only [upd_same, upd_ne, h8], by simp (disch := omega) only [upd_same, upd_ne, h9]⟩, q0, st, blk, hR, q9⟩
    repeat apply W.seq
    refine W.cond (b := true) ?_ ?_
    · simp (disch := omega) only [ev_tmp, get_of, upd_same, upd_ne, hlt, decide_true, decide_false]
    simp only [cond_true, cond_false]
    apply W.skip
    simp only [onN, onB]
    have hK : i < len := by omega
    obtain ⟨pp, pf, hpf, A1, A2⟩ := hs.at (Γ := EE axH) (i := i) hK (ti27 axH) (ti9 axH)
    have A3 := A2 N g' N [] [] q0
    rw [ins_lt (show pf < N by omega)] at A3
    have l8 := hR.len
    have l64 := hR.size
    have hjl := joinL_len ss (fun i hi => h400 i (by omega)) i (by omega)
    have hsi := h400 i hK
    have L1 := ld_all (n := N) (lim := N) (rd := []) (wr := []) (tiS_at axH) tiS_agg (g := g') (f := f9) (u := f9 * 1024 + 0) (cs := cellsS st blk (joinL ss i).length) (by rw [q9]; exact rowOf_one) (cellsS_len l8 l64)
    rw [ins_lt (show f9 < N by omega)] at L1
    obtain ⟨st2, bl2, hR2, n2, g2, rd2, e2, b1, b2, b3⟩ := add_run axH axH_plain axH_comp2 (joinL ss i) st blk hR (ss.getD i nilB) (by omega) N g' N [] [] (Nat.le_refl _) (by omega) (by rw [q0 _ hG]; exact hkw)
    have Q2 : ∀ y, y ∈ rd2 → y < N := fun y hy => by
      rcases b3 y hy with h | h
      · simp at h
      · have := h.1; unfold RG at this; omega
    have m8 := hR2.len
    have m64 := hR2.size
    have S1 := st_allq (n := n2) (tiS_at axH) (g := g2) (f := f9) (u := f9 * 1024 + 0) (vs := cellsS st2 bl2 (joinL ss i ++ (ss.getD i nilB).data.toList).length) (cs := cellsS st blk (joinL ss i).length) (es := none) (by rw [b2 _ (by omega)]; exact q9) (cellsS_len m8 m64) (cellsS_len l8 l64) (cellsS_one _ _ _) (by omega)
    unfold strV at e2
    repeat apply W.seq
    apply W.block
    repeat apply W.seq
    apply W.last
    · kernel_rfl
    · simp (disch := first | omega | (simp (disch := omega) [ev_tmp, ev_const, get_of, upd_same, upd_ne, h0, h9, h10, Tryd.underlying3, Tryd.underlying9, Tryd.underlying4, Tryd.underlying5, Tryd.underlying22, Tryd.underlying24]; done) | (apply inK_i64; omega) | (apply inK_u64; omega)) only [op_len, cond_true, cond_false, pick_on, stepC_if, goC_true, goC_false, guard_tt, guard_tf, guard_ft, guard_ff, slot_zero, slot_succ, put_some, runC_cons, runC_nil, stepC_free, dstC_dst, dstC_none, thenC_some, cop_assign, cop_move, cop_conv, cop_bin, cop_un, cop_pick, cop_index, cop_indexAddr, cop_load, cop_store, cop_alloc, cop_box, cop_build, cop_slice, cop_s2a, cop_field, cop_fieldAddr, cop_extract, cop_nilCheck, cop_call, cop_builtin, cop_buildSlice, ev_tmp, ev_const, ev_global, ev_func, put_of, get_of, upd_same, upd_ne, List.toList_toArray, List.map_cons, List.map_nil, some_map, none_map, ti3, ti4, quietL_cons, quietL_one, inner_st, thenL_same, thenL_rd, lastL_some, insAll_nil, insAll_cons, h0, h9, h10, natOf_nat, A1, A3, L1, e2, thenL_gen Q2, cells_agg, S1]
      with_reducible rfl
    simp only [onN, onB]
    repeat apply W.seq
    apply W.region
    · simp (disch := first | omega | (simp (disch := omega) [ev_tmp, ev_const, get_of, upd_same, upd_ne, h10, Tryd.underlying3, Tryd.underlying9, Tryd.underlying4, Tryd.underlying5, Tryd.underlying22, Tryd.underlying24]; done) | (apply inK_i64; omega) | (apply inK_u64; omega)) only [op_len, cond_true, cond_false, pick_on, stepC_if, goC_true, goC_false, guard_tt, guard_tf, guard_ft, guard_ff, slot_zero, slot_succ, put_some, runC_cons, runC_nil, stepC_free, dstC_dst, dstC_none, thenC_some, cop_assign, cop_move, cop_conv, cop_bin, cop_un, cop_pick, cop_index, cop_indexAddr, cop_load, cop_store, cop_alloc, cop_box, cop_build, cop_slice, cop_s2a, cop_field, cop_fieldAddr, cop_extract, cop_nilCheck, cop_call, cop_builtin, cop_buildSlice, ev_tmp, ev_const, ev_global, ev_func, put_of, get_of, upd_same, upd_ne, List.toList_toArray, List.map_cons, List.map_nil, some_map, none_map, ti3, ti4, oi_add, h10]
      with_reducible rfl
    simp only [onN, onB]
    refine ⟨K - (i + 1), by omega, i + 1, _, n2, _, _, _, by omega, rfl, rfl, rfl, by omega, ⟨?_, ?_, ?_, ?_, ?_⟩, ?_, fun i hi => by rw [fupd_ne _ _ _ _ (by omega), b2 _ (by omega)]; exact q0 i hi, st2, bl2, hR2, ?_⟩
    · simp (disch := omega) only [upd_same, upd_ne, h0]
    · simp (disch := omega) only [upd_same, upd_ne, h1]
    · simp (disch := omega) only [upd_same, upd_ne, h7]
    · simp (disch := omega) only [upd_same, upd_ne, h8]
    · simp (disch := omega) only [upd_same, upd_ne, h9]
    · simp (disch := omega) only [upd_same, upd_ne]; rfl
    · rw [fupd_same]; rfl
  clear p9 p0
  rintro fr s ⟨h, N, g', rd', wr', rfl, rfl, hN, ⟨h0, h1, h7, h8, h9⟩, q0, st, blk, hR, q9⟩
  have l8 := hR.len
  have l64 := hR.size
  have L1 := ld_all (n := N) (lim := 0) (rd := rd') (wr := wr') (tiS_at axH) tiS_agg (g := g') (f := f9) (u := f9 * 1024 + 0) (cs := cellsS st blk (joinL ss K).length) (by rw [q9]; exact rowOf_one) (cellsS_len l8 l64)
  have S1 := st_all (n := N + 1) (lim := 0) (rd := ins 0 rd' f9) (wr := wr') (tiS_at axH) (g := fupd g' N ⟨false, [(N * 1024 + 0, cellsS (List.replicate 8 0) (List.replicate 64 0) 0)], none⟩) (f := N) (u := N * 1024 + 0) (vs := cellsS st blk (joinL ss K).length) (fupd_same _ _ _) (cellsS_len l8 l64) (cellsS_len rfl rfl) (cellsS_one _ _ _)
  rw [fupd_fupd] at S1
  repeat apply W.seq
  apply W.region
  · simp (disch := first | omega | (simp (disch := omega) [ev_tmp, ev_const, get_of, upd_same, upd_ne, h9, Tryd.underlying3, Tryd.underlying9, Tryd.underlying4, Tryd.underlying5, Tryd.underlying22, Tryd.underlying24]; done) | (apply inK_i64; omega) | (apply inK_u64; omega)) only [op_len, cond_true, cond_false, pick_on, stepC_if, goC_true, goC_false, guard_tt, guard_tf, guard_ft, guard_ff, slot_zero, slot_succ, put_some, runC_cons, runC_nil, stepC_free, dstC_dst, dstC_none, thenC_some, cop_assign, cop_move, cop_conv, cop_bin, cop_un, cop_pick, cop_index, cop_indexAddr, cop_load, cop_store, cop_alloc, cop_box, cop_build, cop_slice, cop_s2a, cop_field, cop_fieldAddr, cop_extract, cop_nilCheck, cop_call, cop_builtin, cop_buildSlice, ev_tmp, ev_const, ev_global, ev_func, put_of, get_of, upd_same, upd_ne, List.toList_toArray, List.map_cons, List.map_nil, some_map, none_map, ti3, ti4, h9, L1, alloc_st (tiS_at axH), cells_agg, S1]
    with_reducible rfl
  simp only [onN, onB]
  generalize hg3 : fupd g' N ⟨false, [(N * 1024 + 0, cellsS st blk (joinL ss K).length)], none⟩ = g3
  generalize N = f11 at *
  have h911 : f9 < f11 := hN
  have v11 : g3 f11 = ⟨false, [(f11 * 1024 + 0, cellsS st blk (joinL ss K).length)], none⟩ := by rw [← hg3, fupd_same]
  have v9 : g3 f9 = ⟨false, [(f9 * 1024 + 0, cellsS st blk (joinL ss K).length)], none⟩ := by rw [← hg3, fupd_ne _ _ _ _ (by omega)]; exact q9
  have v0 : ∀ i, i < n → g3 i = g i := fun i hi => by rw [← hg3, fupd_ne _ _ _ _ (by omega)]; exact q0 i hi
  clear hg3 S1 L1 q9 q0
  obtain ⟨stE, blE, hRE, hE⟩ : ∃ stE blE, Repr (joinL ss K) stE blE ∧ cellsS st blk (joinL ss K).length = cellsS stE blE (joinL ss K).length := ⟨st, blk, hR, rfl⟩
  rw [hE] at v11
  apply W.seq
  refine W.cut (fun fr s => ∃ (h : Nat → Value) (N : Nat) (g' : Nat → Fam) (rd' wr' : List Nat), fr = Fr.of 102 h ∧ s = St N g' 0 rd' wr' ∧ f11 < N ∧ (h 0 = .slice x len cap ∧ h 1 = .string o ∧ h 7 = .bool true ∧ h 8 = .int .i64 (K : Int) ∧ h 9 = .pointer (some (mkA f9 (f9 * 1024 + 0) 0))) ∧ h 11 = .pointer (some (mkA f11 (f11 * 1024 + 0) 0)) ∧ (∀ i, i < n → g' i = g i) ∧ g' f11 = ⟨false, [(f11 * 1024 + 0, cellsS stE blE (joinL ss K).length)], none⟩ ∧ ∃ st blk, Repr (joinL ss len) st blk ∧ g' f9 = ⟨false, [(f9 * 1024 + 0, cellsS st blk ((joinL ss len)).length)], none⟩) ?_ ?_
  · skip
    repeat apply W.seq
    apply W.region
    · simp (disch := first | omega | (simp (disch := omega) [ev_tmp, ev_const, get_of, upd_same, upd_ne, h8, Tryd.underlying3, Tryd.underlying9, Tryd.underlying4, Tryd.underlying5, Tryd.underlying22, Tryd.underlying24]; done) | (apply inK_i64; omega) | (apply inK_u64; omega)) only [op_len, cond_true, cond_false, pick_on, stepC_if, goC_true, goC_false, guard_tt, guard_tf, guard_ft, guard_ff, slot_zero, slot_succ, put_some, runC_cons, runC_nil, stepC_free, dstC_dst, dstC_none, thenC_some, cop_assign, cop_move, cop_conv, cop_bin, cop_un, cop_pick, cop_index, cop_indexAddr, cop_load, cop_store, cop_alloc, cop_box, cop_build, cop_slice, cop_s2a, cop_field, cop_fieldAddr, cop_extract, cop_nilCheck, cop_call, cop_builtin, cop_buildSlice, ev_tmp, ev_const, ev_global, ev_func, put_of, get_of, upd_same, upd_ne, List.toList_toArray, List.map_cons, List.map_nil, some_map, none_map, ti3, ti4, h8]
      with_reducible rfl
    simp only [onN, onB]
    repeat apply W.seq
    apply W.block
    refine W.loop (fun m fr s => ∃ (i : Nat) (h : Nat → Value) (N : Nat) (g' : Nat → Fam) (rd' wr' : List Nat), i ≤ len ∧ m = len - i ∧ fr = Fr.of 102 h ∧ s = St N g' 0 rd' wr' ∧ f11 < N ∧ (h 0 = .slice x len cap ∧ h 1 = .string o ∧ h 7 = .bool true ∧ h 8 = .int .i64 (K : Int) ∧ h 9 = .pointer (some (mkA f9 (f9 * 1024 + 0) 0))) ∧ h 11 = .pointer (some (mkA f11 (f11 * 1024 + 0) 0)) ∧ h 12 = .int .i64 (i : Int) ∧ (∀ i, i < n → g' i = g i) ∧ g' f11 = ⟨false, [(f11 * 1024 + 0, cellsS stE blE (joinL ss K).length)], none⟩ ∧ ∃ st blk, Repr (joinL ss i) st blk ∧ g' f9 = ⟨false, [(f9 * 1024 + 0, cellsS st blk ((joinL ss i)).length)], none⟩) ?_ (len - K) _ _ ⟨K, _, f11 + 1, g3, _, _, hKl, rfl, rfl, rfl, by omega, ⟨?_, ?_, ?_, ?_, ?_⟩, ?_, ?_, v0, v11, st, blk, hR, v9⟩
    case refine_2 => simp (disch := omega) only [upd_same, upd_ne, h0]
    case refine_3 => simp (disch := omega) only [upd_same, upd_ne, h1]
    case refine_4 => simp (disch := omega) only [upd_same, upd_ne, h7]
    case refine_5 => simp (disch := omega) only [upd_same, upd_ne, h8]
    case refine_6 => simp (disch := omega) only [upd_same, upd_ne, h9]
    case refine_7 => simp (disch := omega) only [upd_same, upd_ne]
    case refine_8 => simp (disch := omega) only [upd_same, upd_ne]
    clear h0 h1 h7 h8 h9 v9 v0 v11 hR l8 l64 hE
    rintro m fr s ⟨i, h, N, g', rd', wr', hi, rfl, rfl, rfl, hN, ⟨h0, h1, h7, h8, h9⟩, h11, h12', q0, q11, st, blk, hR, q9⟩
    repeat apply W.seq
    apply W.region
    · simp (disch := first | omega | (simp (disch := omega) [ev_tmp, ev_const, get_of, upd_same, upd_ne, h0, h12', Tryd.underlying3, Tryd.underlying9, Tryd.underlying4, Tryd.underlying5, Tryd.underlying22, Tryd.underlying24]; done) | (apply inK_i64; omega) | (apply inK_u64; omega)) only [op_len, cond_true, cond_false, pick_on, stepC_if, goC_true, goC_false, guard_tt, guard_tf, guard_ft, guard_ff, slot_zero, slot_succ, put_some, runC_cons, runC_nil, stepC_free, dstC_dst, dstC_none, thenC_some, cop_assign, cop_move, cop_conv, cop_bin, cop_un, cop_pick, cop_index, cop_indexAddr, cop_load, cop_store, cop_alloc, cop_box, cop_build, cop_slice, cop_s2a, cop_field, cop_fieldAddr, cop_extract, cop_nilCheck, cop_call, cop_builtin, cop_buildSlice, ev_tmp, ev_const, ev_global, ev_func, put_of, get_of, upd_same, upd_ne, List.toList_toArray, List.map_cons, List.map_nil, some_map, none_map, ti3, ti4, h0, h12', len_sl (ti27 axH), oi_lss]
      with_reducible rfl
    simp only [onN, onB]
    by_cases hlt : (i : Int) < (len : Int)
    case neg =>
      repeat apply W.seq
      refine W.cond (b := false) ?_ ?_
      · simp (disch := omega) only [ev_tmp, get_of, upd_same, upd_ne, hlt, decide_true, decide_false]
      simp only [cond_true, cond_false]
      apply W.exit
      simp only [onN, onB, Nat.beq_refl, cond_true]
      have hie : i = len := by omega
      subst hie
      exact ⟨by first | rfl | trivial, _, N, g', rd', wr', rfl, rfl, hN, ⟨by simp (disch := omega) only [upd_same, upd_ne, h0], by simp (disch := omega) only [upd_same, upd_ne, h1], by simp (disch := omega) only [upd_same, upd_ne, h7], by simp (disch := omega) only [upd_same, upd_ne, h8], by simp (disch := omega) only [upd_same, upd_ne, h9]⟩, by simp (disch := omega) only [upd_same, upd_ne, h11], q0, q11, st, blk, hR, q9⟩
    repeat apply W.seq
    refine W.cond (b := true) ?_ ?_
    · simp (disch := omega) only [ev_tmp, get_of, upd_same, upd_ne, hlt, decide_true, decide_false]
    simp only [cond_true, cond_false]
    apply W.skip
    simp only [onN, onB]
    have hK : i < len := by omega
    obtain ⟨pp, pf, hpf, A1, A2⟩ := hs.at (Γ := EE axH) (i := i) hK (ti27 axH) (ti9 axH)
    have A3 := A2 N g' N [] [] q0
    rw [ins_lt (show pf < N by omega)] at A3
    have l8 := hR.len
    have l64 := hR.size
    have hjl := joinL_len ss (fun i hi => h400 i (by omega)) i (by omega)
    have hsi := h400 i hK
    have L1 := ld_all (n := N) (lim := N) (rd := []) (wr := []) (tiS_at axH) tiS_agg (g := g') (f := f9) (u := f9 * 1024 + 0) (cs := cellsS st blk (joinL ss i).length) (by rw [q9]; exact rowOf_one) (cellsS_len l8 l64)
    rw [ins_lt (show f9 < N by omega)] at L1
    obtain ⟨st2, bl2, hR2, n2, g2, rd2, e2, b1, b2, b3⟩ := add_run axH axH_plain axH_comp2 (joinL ss i) st blk hR (ss.getD i nilB) (by omega) N g' N [] [] (Nat.le_refl _) (by omega) (by rw [q0 _ hG]; exact hkw)
    have Q2 : ∀ y, y ∈ rd2 → y < N := fun y hy => by
      rcases b3 y hy with h | h
      · simp at h
      · have := h.1; unfold RG at this; omega
    have m8 := hR2.len
    have m64 := hR2.size
    have S1 := st_allq (n := n2) (tiS_at axH) (g := g2) (f := f9) (u := f9 * 1024 + 0) (vs := cellsS st2 bl2 (joinL ss i ++ (ss.getD i nilB).data.toList).length) (cs := cellsS st blk (joinL ss i).length) (es := none) (by rw [b2 _ (by omega)]; exact q9) (cellsS_len m8 m64) (cellsS_len l8 l64) (cellsS_one _ _ _) (by omega)
    unfold strV at e2
    repeat apply W.seq
    apply W.block
    repeat apply W.seq
    apply W.last
    · kernel_rfl
    · simp (disch := first | omega | (simp (disch := omega) [ev_tmp, ev_const, get_of, upd_same, upd_ne, h0, h9, h12', Tryd.underlying3, Tryd.underlying9, Tryd.underlying4, Tryd.underlying5, Tryd.underlying22, Tryd.underlying24]; done) | (apply inK_i64; omega) | (apply inK_u64; omega)) only [op_len, cond_true, cond_false, pick_on, stepC_if, goC_true, goC_false, guard_tt, guard_tf, guard_ft, guard_ff, slot_zero, slot_succ, put_some, runC_cons, runC_nil, stepC_free, dstC_dst, dstC_none, thenC_some, cop_assign, cop_move, cop_conv, cop_bin, cop_un, cop_pick, cop_index, cop_indexAddr, cop_load, cop_store, cop_alloc, cop_box, cop_build, cop_slice, cop_s2a, cop_field, cop_fieldAddr, cop_extract, cop_nilCheck, cop_call, cop_builtin, cop_buildSlice, ev_tmp, ev_const, ev_global, ev_func, put_of, get_of, upd_same, upd_ne, List.toList_toArray, List.map_cons, List.map_nil, some_map, none_map, ti3, ti4, quietL_cons, quietL_one, inner_st, thenL_same, thenL_rd, lastL_some, insAll_nil, insAll_cons, h0, h9, h12', natOf_nat, A1, A3, L1, e2, thenL_gen Q2, cells_agg, S1]
      with_reducible rfl
    simp only [onN, onB]
    repeat apply W.seq
    apply W.region
    · simp (disch := first | omega | (simp (disch := omega) [ev_tmp, ev_const, get_of, upd_same, upd_ne, h12', Tryd.underlying3, Tryd.underlying9, Tryd.underlying4, Tryd.underlying5, Tryd.underlying22, Tryd.underlying24]; done) | (apply inK_i64; omega) | (apply inK_u64; omega)) only [op_len, cond_true, cond_false, pick_on, stepC_if, goC_true, goC_false, guard_tt, guard_tf, guard_ft, guard_ff, slot_zero, slot_succ, put_some, runC_cons, runC_nil, stepC_free, dstC_dst, dstC_none, thenC_some, cop_assign, cop_move, cop_conv, cop_bin, cop_un, cop_pick, cop_index, cop_indexAddr, cop_load, cop_store, cop_alloc, cop_box, cop_build, cop_slice, cop_s2a, cop_field, cop_fieldAddr, cop_extract, cop_nilCheck, cop_call, cop_builtin, cop_buildSlice, ev_tmp, ev_const, ev_global, ev_func, put_of, get_of, upd_same, upd_ne, List.toList_toArray, List.map_cons, List.map_nil, some_map, none_map, ti3, ti4, oi_add, h12']
      with_reducible rfl
    simp only [onN, onB]
    refine ⟨len - (i + 1), by omega, i + 1, _, n2, _, _, _, by omega, rfl, rfl, rfl, by omega, ⟨?_, ?_, ?_, ?_, ?_⟩, ?_, ?_, fun i hi => by rw [fupd_ne _ _ _ _ (by omega), b2 _ (by omega)]; exact q0 i hi, by rw [fupd_ne _ _ _ _ (by omega), b2 _ (by omega)]; exact q11, st2, bl2, hR2, ?_⟩
    · simp (disch := omega) only [upd_same, upd_ne, h0]
    · simp (disch := omega) only [upd_same, upd_ne, h1]
    · simp (disch := omega) only [upd_same, upd_ne, h7]
    · simp (disch := omega) only [upd_same, upd_ne, h8]
    · simp (disch := omega) only [upd_same, upd_ne, h9]
    · simp (disch := omega) only [upd_same, upd_ne, h11]
    · simp (disch := omega) only [upd_same, upd_ne]; rfl
    · rw [fupd_same]; rfl
  clear h0 h1 h7 h8 h9 v9 v0 v11 hR l8 l64 hE hN
  rintro fr s ⟨h, N, g', rd', wr', rfl, rfl, hN, ⟨h0, h1, h7, h8, h9⟩, h11, q0, q11, st, blk, hR, q9⟩
  have hjK := joinL_len ss (fun i hi => h400 i (by omega)) K (by omega)
  have hjL := joinL_len ss (fun i hi => h400 i (by omega)) len (by omega)
  -- the fork
  have L1 := ld_all (n := N) (lim := 0) (rd := rd') (wr := wr') (tiS_at axH) tiS_agg (g := g') (f := f11) (u := f11 * 1024 + 0) (cs := cellsS stE blE (joinL ss K).length) (by rw [q11]; exact rowOf_one) (cellsS_len hRE.len hRE.size)
  obtain ⟨st2, bl2, hR2, f13, g2, rd2, e2, b1, b2, -⟩ := add_run axH axH_plain axH_comp2 (joinL ss K) stE blE hRE o (by omega) N g' 0 (ins 0 rd' f11) wr' (Nat.zero_le _) (by omega) (by rw [q0 _ hG]; exact hkw)
  have S1 := st_all (n := f13 + 1) (lim := 0) (rd := rd2) (wr := wr') (tiS_at axH) (g := fupd g2 f13 ⟨false, [(f13 * 1024 + 0, cellsS (List.replicate 8 0) (List.replicate 64 0) 0)], none⟩) (f := f13) (u := f13 * 1024 + 0) (vs := cellsS st2 bl2 (joinL ss K ++ o.data.toList).length) (fupd_same _ _ _) (cellsS_len hR2.len hR2.size) (cellsS_len rfl rfl) (cellsS_one _ _ _)
  rw [fupd_fupd] at S1
  unfold strV at e2
  repeat apply W.seq
  apply W.region
  · simp (disch := first | omega | (simp (disch := omega) [ev_tmp, ev_const, get_of, upd_same, upd_ne, h1, h11, Tryd.underlying3, Tryd.underlying9, Tryd.underlying4, Tryd.underlying5, Tryd.underlying22, Tryd.underlying24]; done) | (apply inK_i64; omega) | (apply inK_u64; omega)) only [op_len, cond_true, cond_false, pick_on, stepC_if, goC_true, goC_false, guard_tt, guard_tf, guard_ft, guard_ff, slot_zero, slot_succ, put_some, runC_cons, runC_nil, stepC_free, dstC_dst, dstC_none, thenC_some, cop_assign, cop_move, cop_conv, cop_bin, cop_un, cop_pick, cop_index, cop_indexAddr, cop_load, cop_store, cop_alloc, cop_box, cop_build, cop_slice, cop_s2a, cop_field, cop_fieldAddr, cop_extract, cop_nilCheck, cop_call, cop_builtin, cop_buildSlice, ev_tmp, ev_const, ev_global, ev_func, put_of, get_of, upd_same, upd_ne, List.toList_toArray, List.map_cons, List.map_nil, some_map, none_map, ti3, ti4, h1, h11, L1, e2, alloc_st (tiS_at axH), cells_agg, S1]
    with_reducible rfl
  simp only [onN, onB]
  generalize ins 0 wr' f13 = wr2
  generalize hg3 : fupd g2 f13 ⟨false, [(f13 * 1024 + 0, cellsS st2 bl2 (joinL ss K ++ o.data.toList).length)], none⟩ = g3
  have v13 : g3 f13 = ⟨false, [(f13 * 1024 + 0, cellsS st2 bl2 (joinL ss K ++ o.data.toList).length)], none⟩ := by rw [← hg3, fupd_same]
  have v11 : g3 f11 = ⟨false, [(f11 * 1024 + 0, cellsS stE blE (joinL ss K).length)], none⟩ := by rw [← hg3, fupd_ne _ _ _ _ (by omega), b2 _ (by omega)]; exact q11
  have v9 : g3 f9 = ⟨false, [(f9 * 1024 + 0, cellsS st blk (joinL ss len).length)], none⟩ := by rw [← hg3, fupd_ne _ _ _ _ (by omega), b2 _ (by omega)]; exact q9
  have v0 : ∀ i, i < n → g3 i = g i := fun i hi => by rw [← hg3, fupd_ne _ _ _ _ (by omega), b2 _ (by omega)]; exact q0 i hi
  clear hg3 S1 L1 e2 q9 q0 q11 b2
  have hs3 : StrArg g3 (f13 + 1) x len cap ss := hs.keep v0 (by omega)
  obtain ⟨rdj, ej⟩ := joined_run axH axH_plain x len cap ss h12 h400 (f13 + 1) g3 0 rd2 wr2 hs3
  repeat apply W.seq
  apply W.region
  · simp (disch := first | omega | (simp (disch := omega) [ev_tmp, ev_const, get_of, upd_same, upd_ne, h0, Tryd.underlying3, Tryd.underlying9, Tryd.underlying4, Tryd.underlying5, Tryd.underlying22, Tryd.underlying24]; done) | (apply inK_i64; omega) | (apply inK_u64; omega)) only [op_len, cond_true, cond_false, pick_on, stepC_if, goC_true, goC_false, guard_tt, guard_tf, guard_ft, guard_ff, slot_zero, slot_succ, put_some, runC_cons, runC_nil, stepC_free, dstC_dst, dstC_none, thenC_some, cop_assign, cop_move, cop_conv, cop_bin, cop_un, cop_pick, cop_index, cop_indexAddr, cop_load, cop_store, cop_alloc, cop_box, cop_build, cop_slice, cop_s2a, cop_field, cop_fieldAddr, cop_extract, cop_nilCheck, cop_call, cop_builtin, cop_buildSlice, ev_tmp, ev_const, ev_global, ev_func, put_of, get_of, upd_same, upd_ne, List.toList_toArray, List.map_cons, List.map_nil, some_map, none_map, ti3, ti4, h0, ej]
    with_reducible rfl
  simp only [onN, onB]
  obtain ⟨x', esl, hs4⟩ := hs3.take hKl (ti27 axH) (ti9 axH)
  obtain ⟨rdk, ek⟩ := joined_run axH axH_plain x' K cap (ss.take K) (by omega) (fun i hi => by rw [List.getD_eq_getElem?_getD, List.getElem?_take_of_lt hi, ← List.getD_eq_getElem?_getD]; exact h400 i (by omega)) (f13 + 1) g3 0 rdj wr2 hs4
  rw [joinL_take ss K K (Nat.le_refl _)] at ek
  repeat apply W.seq
  apply W.region
  · simp (disch := first | omega | (simp (disch := omega) [ev_tmp, ev_const, get_of, upd_same, upd_ne, h0, h8, Tryd.underlying3, Tryd.underlying9, Tryd.underlying4, Tryd.underlying5, Tryd.underlying22, Tryd.underlying24]; done) | (apply inK_i64; omega) | (apply inK_u64; omega)) only [op_len, cond_true, cond_false, pick_on, stepC_if, goC_true, goC_false, guard_tt, guard_tf, guard_ft, guard_ff, slot_zero, slot_succ, put_some, runC_cons, runC_nil, stepC_free, dstC_dst, dstC_none, thenC_some, cop_assign, cop_move, cop_conv, cop_bin, cop_un, cop_pick, cop_index, cop_indexAddr, cop_load, cop_store, cop_alloc, cop_box, cop_build, cop_slice, cop_s2a, cop_field, cop_fieldAddr, cop_extract, cop_nilCheck, cop_call, cop_builtin, cop_buildSlice, ev_tmp, ev_const, ev_global, ev_func, put_of, get_of, upd_same, upd_ne, List.toList_toArray, List.map_cons, List.map_nil, some_map, none_map, ti3, ti4, h0, h8, esl, ek]
    with_reducible rfl
  simp only [onN, onB]
  -- four sums and what they must be
  obtain ⟨iu, hiu, hsu⟩ := info_u8
  have OA := fun (M : List UInt8) (ρ : Operand → Value) (s : CS) (d : Option Tmp) (ty t2 : TypeId) (pos : String) (e : Array Edge) (g : Option (Nat × Bool)) (x y : Operand) (hx : ρ x = .agg (bvs (sha M)).toArray) (hy : ρ y = .agg (bvs (sha M)).toArray) => oa_eql (P := Tryd.prog) (Γ := EE axH) (ρ := ρ) (s := s) (d := d) (ty := ty) (t2 := t2) (pos := pos) (e := e) (g := g) Tryd.underlying24 Tryd.underlying5 hiu hsu guard32 (sha_len M) (sha_len M) hx hy
  have step : ∀ (M : List UInt8) (f : Nat) (sA : List UInt32) (bA : List UInt8) (hRA : Repr M sA bA) (hMl : M.length ≤ 10000) (n4 : Nat) (g4 : Nat → Fam) (rd4 : List Nat), f < n4 → n ≤ n4 → g4 f = ⟨false, [(f * 1024 + 0, cellsS sA bA M.length)], none⟩ → (∀ i, i < n → g4 i = g i) →
      ∃ n5 g5 rd5, opLoad (EE axH) (St n4 g4 0 rd4 wr2) 34 (.pointer (some (mkA f (f * 1024 + 0) 0))) = some (.agg (cellsS sA bA M.length).toArray, St n4 g4 0 (ins 0 rd4 f) wr2) ∧ callR Tryd.prog (EE axH) 23 [.agg (cellsS sA bA M.length).toArray] (St n4 g4 0 (ins 0 rd4 f) wr2) = some (.agg (bvs (sha M)).toArray, St n5 g5 0 rd5 wr2) ∧ n4 ≤ n5 ∧ (∀ i, i < n4 → g5 i = g4 i) := by
    intro M f sA bA hRA hMl n4 g4 rd4 hf hn4 hgf hg4
    obtain ⟨n5, g5, rd5, e5, k1, k2, -⟩ := ssum_run axH axH_plain axH_comp2 M sA bA hRA (by omega) n4 g4 0 (ins 0 rd4 f) wr2 (Nat.zero_le _) (by omega) (by rw [hg4 _ hG]; exact hkw)
    exact ⟨n5, g5, rd5, ld_all (tiS_at axH) tiS_agg (by rw [hgf]; exact rowOf_one) (cellsS_len hRA.len hRA.size), e5, k1, k2⟩
  have want : ∀ (M : List UInt8) (hMl : M.length ≤ 10000) (n4 : Nat) (g4 : Nat → Fam) (rd4 : List Nat), n ≤ n4 → (∀ i, i < n → g4 i = g i) →
      ∃ n5 g5 rd5 gb, (∀ ρ o, opConvert Tryd.prog (EE axH) ρ o (St n4 g4 0 rd4 wr2) 9 22 (.string ⟨M.toArray⟩) = some (.slice (some (mkA n4 (n4 * 1024 + 2) 0)) M.length M.length, St (n4 + 1) gb 0 rd4 wr2)) ∧ callR Tryd.prog (EE axH) 18 [.slice (some (mkA n4 (n4 * 1024 + 2) 0)) M.length M.length] (St (n4 + 1) gb 0 rd4 wr2) = some (.agg (bvs (sha M)).toArray, St n5 g5 0 rd5 wr2) ∧ n4 + 1 ≤ n5 ∧ (∀ i, i < n4 → g5 i = g4 i) := by
    intro M hMl n4 g4 rd4 hn4 hg4
    have hz : (ByteArray.mk M.toArray).size = M.length := mk_size _
    have CB := fun ρ o => conv_bytes (P := Tryd.prog) (Γ := EE axH) (ρ := ρ) (o := o) (n := n4) (g := g4) (lim := 0) (rd := rd4) (wr := wr2) (x := ⟨M.toArray⟩) (ti9 axH) (ti22 axH) (ti5 axH) (by rw [hz]; omega)
    generalize hgb : fupd g4 n4 ⟨false, [(n4 * 1024 + 2, byteVs ⟨M.toArray⟩)], none⟩ = gb at CB
    rw [hz] at CB
    have hba : ByteArg gb (n4 + 1) (some (mkA n4 (n4 * 1024 + 2) 0)) M.length M := by
      refine ⟨rfl, .inr ⟨n4, n4 * 1024 + 2, 0, byteVs ⟨M.toArray⟩, rfl, by omega, ?_, ?_, ?_⟩⟩
      · rw [← hgb, fupd_same]; exact rowOf_one
      · rw [byteVs_eq, bvs_len, mk_list]; omega
      · rw [byteVs_eq, mk_list, List.drop_zero, List.take_of_length_le (by rw [bvs_len]; omega)]
    have b0 : ∀ i, i < n4 → gb i = g4 i := fun i hi => by rw [← hgb, fupd_ne _ _ _ _ (by omega)]
    clear hgb
    obtain ⟨n5, g5, rd5, e5, k1, k2, -⟩ := rsum_run axH axH_plain (some (mkA n4 (n4 * 1024 + 2) 0)) M.length M.length M (by omega) (n4 + 1) gb 0 rd4 wr2 (Nat.zero_le _) hba (by omega) (by rw [b0 _ (by omega), hg4 _ hG0]; exact hkw0)
    exact ⟨n5, g5, rd5, gb, CB, e5, k1, fun i hi => by rw [k2 _ (by omega)]; exact b0 i hi⟩
  have hKo : (joinL ss K ++ o.data.toList).length ≤ 10000 := by rw [List.length_append, str_len]; omega
  obtain ⟨n4, g4, rd4, s1, s2, s3, s4⟩ := step _ f9 st blk hR (by omega) (f13 + 1) g3 rdk (by omega) (by omega) v9 v0
  obtain ⟨n5, g5, rd5, gb5, s5, s6, s7, s8⟩ := want (joinL ss len) (by omega) n4 g4 rd4 (by omega) (fun i hi => by rw [s4 _ (by omega)]; exact v0 i hi)
  obtain ⟨n6, g6, rd6, t1, t2, t3, t4⟩ := step _ f11 stE blE hRE (by omega) n5 g5 rd5 (by omega) (by omega) (by rw [s8 _ (by omega), s4 _ (by omega)]; exact v11) (fun i hi => by rw [s8 _ (by omega), s4 _ (by omega)]; exact v0 i hi)
  obtain ⟨n7, g7, rd7, gb7, t5, t6, t7, t8⟩ := want (joinL ss K) (by omega) n6 g6 rd6 (by omega) (fun i hi => by rw [t4 _ (by omega), s8 _ (by omega), s4 _ (by omega)]; exact v0 i hi)
  obtain ⟨n8, g8, rd8, u1, u2, u3, u4⟩ := step _ f13 st2 bl2 hR2 hKo n7 g7 rd7 (by omega) (by omega) (by rw [t8 _ (by omega), t4 _ (by omega), s8 _ (by omega), s4 _ (by omega)]; exact v13) (fun i hi => by rw [t8 _ (by omega), t4 _ (by omega), s8 _ (by omega), s4 _ (by omega)]; exact v0 i hi)
  obtain ⟨n9, g9, rd9, gb9, u5, u6, u7, u8'⟩ := want (joinL ss K ++ o.data.toList) hKo n8 g8 rd8 (by omega) (fun i hi => by rw [u4 _ (by omega), t8 _ (by omega), t4 _ (by omega), s8 _ (by omega), s4 _ (by omega)]; exact v0 i hi)
  have w9 : ∀ i, i < f13 + 1 → g9 i = g3 i := fun i hi => by rw [u8' _ (by omega), u4 _ (by omega), t8 _ (by omega), t4 _ (by omega), s8 _ (by omega), s4 _ (by omega)]
  obtain ⟨nA, gA, rdA, y1, y2, y3, y4⟩ := step _ f9 st blk hR (by omega) n9 g9 rd9 (by omega) (by omega) (by rw [w9 _ (by omega)]; exact v9) (fun i hi => by rw [w9 _ (by omega)]; exact v0 i hi)
  have CB := fun ρ o => conv_bytes (P := Tryd.prog) (Γ := EE axH) (ρ := ρ) (o := o) (n := nA) (g := gA) (lim := 0) (rd := rdA) (wr := wr2) (x := ⟨(joinL ss len).toArray⟩) (ti9 axH) (ti22 axH) (ti5 axH) (by rw [mk_size]; omega)
  generalize hgb : fupd gA nA ⟨false, [(nA * 1024 + 2, byteVs ⟨(joinL ss len).toArray⟩)], none⟩ = gbA at CB
  rw [mk_size] at CB
  have hba : ByteArg gbA (nA + 1) (some (mkA nA (nA * 1024 + 2) 0)) (joinL ss len).length (joinL ss len) := by
    refine ⟨rfl, .inr ⟨nA, nA * 1024 + 2, 0, byteVs ⟨(joinL ss len).toArray⟩, rfl, by omega, ?_, ?_, ?_⟩⟩
    · rw [← hgb, fupd_same]; exact rowOf_one
    · rw [byteVs_eq, bvs_len, mk_list]; omega
    · rw [byteVs_eq, mk_list, List.drop_zero, List.take_of_length_le (by rw [bvs_len]; omega)]
  have z0 : rowOf (gbA 1).rows (1 * 1024) = some (wvs KW) := by rw [← hgb, fupd_ne _ _ _ _ (by omega), y4 _ (by omega), w9 _ (by omega), v0 _ hG]; exact hkw
  obtain ⟨nB, gB, rdB, eB, z1, z2, -⟩ := hsum_run axH axH_plain axH_comp2 (some (mkA nA (nA * 1024 + 2) 0)) (joinL ss len).length (joinL ss len).length (joinL ss len) (by omega) (nA + 1) gbA 0 rdA wr2 (Nat.zero_le _) hba (by omega) z0
  have hadd : ByteArray.mk (joinL ss K).toArray ++ o = ⟨(joinL ss K ++ o.data.toList).toArray⟩ := by
    apply ByteArray.ext
    apply Array.toList_inj.1
    simp [ByteArray.data_append]
  have hasz : (ByteArray.mk (joinL ss K).toArray).size = (joinL ss K).length := mk_size _
  repeat apply W.seq
  apply W.region
  · simp (disch := first | omega | (simp (disch := omega) [ev_tmp, ev_const, get_of, upd_same, upd_ne, h1, h7, h9, h11, Tryd.underlying3, Tryd.underlying9, Tryd.underlying4, Tryd.underlying5, Tryd.underlying22, Tryd.underlying24]; done) | (apply inK_i64; omega) | (apply inK_u64; omega) | (rw [hasz]; omega)) only [op_len, cond_true, cond_false, pick_on, stepC_if, goC_true, goC_false, guard_tt, guard_tf, guard_ft, guard_ff, slot_zero, slot_succ, put_some, runC_cons, runC_nil, stepC_free, dstC_dst, dstC_none, thenC_some, cop_assign, cop_move, cop_conv, cop_bin, cop_un, cop_pick, cop_index, cop_indexAddr, cop_load, cop_store, cop_alloc, cop_box, cop_build, cop_slice, cop_s2a, cop_field, cop_fieldAddr, cop_extract, cop_nilCheck, cop_call, cop_builtin, cop_buildSlice, ev_tmp, ev_const, ev_global, ev_func, put_of, get_of, upd_same, upd_ne, List.toList_toArray, List.map_cons, List.map_nil, some_map, none_map, ti3, ti4, h1, h7, h9, h11, s1, s2, s5, s6, OA, beq_self_eq_true, t1, t2, t5, t6, u1, u2, os_add, hadd, u5, u6, y1, y2, CB, eB]
    with_reducible rfl
  simp only [onN, onB]
  apply W.ret
  refine ⟨.inr rfl, [.bool true], ?_⟩
  apply Exists.intro
  apply And.intro
  · simp (disch := omega) only [resC, Tryd.results4, get_of, upd_same]
    all_goals rfl
  · rfl
end Go.Proofs.YtcmfoipnoejmlaaDoor
