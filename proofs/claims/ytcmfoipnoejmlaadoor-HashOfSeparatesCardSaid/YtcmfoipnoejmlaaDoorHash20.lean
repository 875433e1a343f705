/- The document's Input, Short and Of in the plain machine. -/
import Derived.Test.YtcmfoipnoejmlaaDoorHash19
namespace Go.Proofs.YtcmfoipnoejmlaaDoor
open Go Go.RowKit WM
set_option linter.unusedSimpArgs false
set_option linter.unusedVariables false
set_option maxRecDepth 100000
theorem tiD (ax : Axs) : (EE ax).ti.at 44 = some ⟨.array 16 5, 16, 16, List.replicate 16 (.int .u8 0)⟩ := by kernel_rfl
theorem bld16 (ax : Axs) (s : CS) (ρ : Operand → Value) : opBuild (EE ax) s ρ 44 [] = some (.agg (List.replicate 16 (.int .u8 0)).toArray, s) := by kernel_rfl
def byteOf (t : Int) : UInt8 := UInt8.ofNat (t % 256).toNat
theorem byteOf_eq (t : Int) : Value.int .u8 (IntKind.u8.wrap t) = vb (byteOf t) := by
  unfold vb byteOf
  have hlt : (t % 256).toNat < 256 := by omega
  have h : (UInt8.ofNat (t % 256).toNat).toNat = (t % 256).toNat := UInt8.toNat_ofNat_of_lt' hlt
  rw [h, IntKind.wrap_u8]
  congr 1
  omega
theorem conv_ib2 {P : Program} {Γ : Env} {ρ : Operand → Value} {s : CS} {src dst ty : TypeId} {d : Option Tmp} {pos : String} {e : Array Edge} {q : Option (Nat × Bool)} {x : Operand} {z b z2 b2 : Nat} {zs zs2 : List Value} {t : Int} (hs : Γ.ti.at src = some ⟨.int .i64, z, b, zs⟩) (hd : Γ.ti.at dst = some ⟨.int .u8, z2, b2, zs2⟩) (ps : (P.underlying src).isSome = true) (pd : P.underlying dst = some (.int .u8)) (hx : ρ x = .int .i64 t) : opConvert P Γ ρ ⟨d, .convert src dst x, ty, pos, e, q⟩ s src dst (.int .i64 t) = some (vb (byteOf t), s) := by
  unfold opConvert
  rw [hs, hd]
  show orPure P ρ _ s (convI .u8 t) = _
  rw [oc_int ⟨_, hx⟩ ps pd, byteOf_eq]
def inpL (c : UInt8) (ss : List ByteArray) : Nat → List UInt8
  | 0 => [c]
  | i + 1 => inpL c ss i ++ encS (ss.getD i nilB)
theorem encS_len (s : ByteArray) (h : s.size ≤ 400) : (encS s).length ≤ 410 := by
  have := enc_len (n := (s.size : Int)) (by omega) (by omega)
  unfold encS
  rw [List.length_append, str_len]; omega
theorem inpL_len (c : UInt8) (ss : List ByteArray) (h : ∀ i, i < ss.length → (ss.getD i nilB).size ≤ 400) : ∀ i, i ≤ ss.length → (inpL c ss i).length ≤ 1 + 410 * i
  | 0, _ => by simp [inpL]
  | i + 1, hi => by
    have := inpL_len c ss h i (by omega)
    have := encS_len _ (h i (by omega))
    rw [inpL, List.length_append]; omega
set_option maxHeartbeats 2000000 in
theorem inp_run (ax : Axs) (hp : Plain ax) (tag : Int) (x : Option Addr) (len cap : Nat) (ss : List ByteArray) (h12 : len ≤ 12) (h400 : ∀ i, i < len → (ss.getD i nilB).size ≤ 400) (n : Nat) (g : Nat → Fam) (lim : Nat) (rd wr : List Nat) (hl : lim ≤ n) (hs : StrArg g n x len cap ss) :
    ∃ ao n' g' rd', callR Tryd.prog (EE ax) 29 [.int .i64 tag, .slice x len cap] (St n g lim rd wr) = some (.slice ao (inpL (byteOf tag) ss len).length (inpL (byteOf tag) ss len).length, St n' g' lim rd' wr) ∧ OwnX n g' n' 1 ao (inpL (byteOf tag) ss len).length (bvs (inpL (byteOf tag) ss len)) ∧ n ≤ n' ∧ (∀ i, i < n → g' i = g i) := by
  have hax : ax 29 = none := hp _ (by decide)
  have hsl := hs.1
  suffices hh : ∃ v s2, callR Tryd.prog (EE ax) 29 [.int .i64 tag, .slice x len cap] (St n g lim rd wr) = some (v, s2) ∧ ∃ ao n' g' rd', v = .slice ao (inpL (byteOf tag) ss len).length (inpL (byteOf tag) ss len).length ∧ s2 = St n' g' lim rd' wr ∧ OwnX n g' n' 1 ao (inpL (byteOf tag) ss len).length (bvs (inpL (byteOf tag) ss len)) ∧ n ≤ n' ∧ (∀ i, i < n → g' i = g i) by
    obtain ⟨v, s2, h1, ao, n', g', rd', rfl, rfl, h2⟩ := hh
    exact ⟨ao, n', g', rd', h1, h2⟩
  refine callR_ex (fn := Tryd.f29) 24 hax (fn29 ax) rfl Tryd.ntmps29 (by simp) ?_
  simp (disch := omega) only [ofArgs_cons, ofArgs_nil, Nat.reduceAdd]
  generalize hc : byteOf tag = c at *
  repeat apply W.seq
  apply W.region
  · simp (disch := first | omega | (simp (disch := omega) [ev_tmp, ev_const, get_of, upd_same, upd_ne, Tryd.underlying3, Tryd.underlying83, Tryd.underlying5, Tryd.underlying9, Tryd.underlying22]; done) | (apply inK_i64; omega) | (apply inK_u64; omega)) only [op_len, cond_true, cond_false, pick_on, stepC_if, goC_true, goC_false, guard_tt, guard_tf, guard_ft, guard_ff, slot_zero, slot_succ, put_some, runC_cons, runC_nil, stepC_free, dstC_dst, dstC_none, thenC_some, cop_assign, cop_move, cop_conv, cop_bin, cop_un, cop_pick, cop_index, cop_indexAddr, cop_load, cop_store, cop_alloc, cop_box, cop_build, cop_slice, cop_s2a, cop_field, cop_fieldAddr, cop_extract, cop_nilCheck, cop_call, cop_builtin, cop_buildSlice, ev_tmp, ev_const, ev_global, ev_func, put_of, get_of, upd_same, upd_ne, List.toList_toArray, List.map_cons, List.map_nil, some_map, none_map, ti3, ti83, ti5]
    with_reducible rfl
  simp only [onN, onB]
  repeat apply W.seq
  apply W.region
  · simp (disch := first | omega | (simp (disch := omega) [ev_tmp, ev_const, get_of, upd_same, upd_ne, vb_cells, Tryd.underlying3, Tryd.underlying83, Tryd.underlying5, Tryd.underlying9, Tryd.underlying22]; done) | (apply inK_i64; omega) | (apply inK_u64; omega)) only [op_len, cond_true, cond_false, pick_on, stepC_if, goC_true, goC_false, guard_tt, guard_tf, guard_ft, guard_ff, slot_zero, slot_succ, put_some, runC_cons, runC_nil, stepC_free, dstC_dst, dstC_none, thenC_some, cop_assign, cop_move, cop_conv, cop_bin, cop_un, cop_pick, cop_index, cop_indexAddr, cop_load, cop_store, cop_alloc, cop_box, cop_build, cop_slice, cop_s2a, cop_field, cop_fieldAddr, cop_extract, cop_nilCheck, cop_call, cop_builtin, cop_buildSlice, ev_tmp, ev_const, ev_global, ev_func, put_of, get_of, upd_same, upd_ne, List.toList_toArray, List.map_cons, List.map_nil, some_map, none_map, ti3, ti83, ti5, opConvert, oc_int, byteOf_eq, hc, build_one (ti22 ax) (ti5 ax) rfl rfl]
    with_reducible rfl
  simp only [onN, onB]
  repeat apply W.seq
  apply W.region
  · simp (disch := first | omega | (simp (disch := omega) [ev_tmp, ev_const, get_of, upd_same, upd_ne, Tryd.underlying3, Tryd.underlying83, Tryd.underlying5, Tryd.underlying9, Tryd.underlying22]; done) | (apply inK_i64; omega) | (apply inK_u64; omega)) only [op_len, cond_true, cond_false, pick_on, stepC_if, goC_true, goC_false, guard_tt, guard_tf, guard_ft, guard_ff, slot_zero, slot_succ, put_some, runC_cons, runC_nil, stepC_free, dstC_dst, dstC_none, thenC_some, cop_assign, cop_move, cop_conv, cop_bin, cop_un, cop_pick, cop_index, cop_indexAddr, cop_load, cop_store, cop_alloc, cop_box, cop_build, cop_slice, cop_s2a, cop_field, cop_fieldAddr, cop_extract, cop_nilCheck, cop_call, cop_builtin, cop_buildSlice, ev_tmp, ev_const, ev_global, ev_func, put_of, get_of, upd_same, upd_ne, List.toList_toArray, List.map_cons, List.map_nil, some_map, none_map, ti3, ti83, ti5]
    with_reducible rfl
  simp only [onN, onB]
  repeat apply W.seq
  apply W.block
  refine W.loop (fun m fr s => ∃ (i : Nat) (ao : Option Addr) (h : Nat → Value) (N : Nat) (g' : Nat → Fam) (rd' : List Nat), i ≤ len ∧ m = len - i ∧ fr = Fr.of 24 h ∧ s = St N g' lim rd' wr ∧ n ≤ N ∧ h 1 = .slice x len cap ∧ h 6 = .int .i64 (i : Int) ∧ h 5 = .slice ao (inpL c ss i).length (inpL c ss i).length ∧ OwnX n g' N 1 ao (inpL c ss i).length (bvs (inpL c ss i)) ∧ (∀ i, i < n → g' i = g i)) ?_ (len - 0) _ _ ⟨0, _, _, n + 1, _, rd, by omega, rfl, rfl, rfl, by omega, ?_, ?_, ?_, .inr ⟨rfl, n, n * 1024 + 0, [], rfl, fupd_same _ _ _, by omega, by omega, by omega, by omega⟩, fun i hi => fupd_ne _ _ _ _ (by omega)⟩
  case refine_2 => simp (disch := omega) only [upd_same, upd_ne]
  case refine_3 => simp (disch := omega) only [upd_same, upd_ne]; rfl
  case refine_4 => simp (disch := omega) only [upd_same, upd_ne]; rfl
  rintro m fr s ⟨i, ao, h, N, g', rd', hi, rfl, rfl, rfl, hN, h1, h6, h5, hown, p0⟩
  repeat apply W.seq
  apply W.region
  · simp (disch := first | omega | (simp (disch := omega) [ev_tmp, ev_const, get_of, upd_same, upd_ne, h1, h6, Tryd.underlying3, Tryd.underlying83, Tryd.underlying5, Tryd.underlying9, Tryd.underlying22]; done) | (apply inK_i64; omega) | (apply inK_u64; omega)) only [op_len, cond_true, cond_false, pick_on, stepC_if, goC_true, goC_false, guard_tt, guard_tf, guard_ft, guard_ff, slot_zero, slot_succ, put_some, runC_cons, runC_nil, stepC_free, dstC_dst, dstC_none, thenC_some, cop_assign, cop_move, cop_conv, cop_bin, cop_un, cop_pick, cop_index, cop_indexAddr, cop_load, cop_store, cop_alloc, cop_box, cop_build, cop_slice, cop_s2a, cop_field, cop_fieldAddr, cop_extract, cop_nilCheck, cop_call, cop_builtin, cop_buildSlice, ev_tmp, ev_const, ev_global, ev_func, put_of, get_of, upd_same, upd_ne, List.toList_toArray, List.map_cons, List.map_nil, some_map, none_map, ti3, ti83, ti5, h1, h6, len_sl (ti27 ax), oi_lss]
    with_reducible rfl
  simp only [onN, onB]
  by_cases hlt : (i : Int) < (len : Int)
  case neg =>
    repeat apply W.seq
    refine W.cond (b := false) ?_ ?_
    · simp (disch := omega) only [ev_tmp, get_of, upd_same, upd_ne, hlt, decide_true, decide_false]
    simp only [cond_true, cond_false]
    apply W.exit
    simp only [onN, onB, Nat.beq_refl, cond_true, cond_false, bexit]
    have hie : i = len := by omega
    subst hie
    repeat apply W.seq
    apply W.region
    · simp (disch := first | omega | (simp (disch := omega) [ev_tmp, ev_const, get_of, upd_same, upd_ne, h5, Tryd.underlying3, Tryd.underlying83, Tryd.underlying5, Tryd.underlying9, Tryd.underlying22]; done) | (apply inK_i64; omega) | (apply inK_u64; omega)) only [op_len, cond_true, cond_false, pick_on, stepC_if, goC_true, goC_false, guard_tt, guard_tf, guard_ft, guard_ff, slot_zero, slot_succ, put_some, runC_cons, runC_nil, stepC_free, dstC_dst, dstC_none, thenC_some, cop_assign, cop_move, cop_conv, cop_bin, cop_un, cop_pick, cop_index, cop_indexAddr, cop_load, cop_store, cop_alloc, cop_box, cop_build, cop_slice, cop_s2a, cop_field, cop_fieldAddr, cop_extract, cop_nilCheck, cop_call, cop_builtin, cop_buildSlice, ev_tmp, ev_const, ev_global, ev_func, put_of, get_of, upd_same, upd_ne, List.toList_toArray, List.map_cons, List.map_nil, some_map, none_map, ti3, ti83, ti5, h5]
      with_reducible rfl
    simp only [onN, onB]
    apply W.ret
    refine ⟨.inr rfl, [.slice ao (inpL c ss i).length (inpL c ss i).length], St N g' lim rd' wr, ?_, ao, N, g', rd', rfl, rfl, hown, hN, p0⟩
    simp (disch := omega) only [resC, Tryd.results29, get_of, upd_same]
    all_goals rfl
  repeat apply W.seq
  refine W.cond (b := true) ?_ ?_
  · simp (disch := omega) only [ev_tmp, get_of, upd_same, upd_ne, hlt, decide_true, decide_false]
  simp only [cond_true, cond_false]
  apply W.skip
  simp only [onN, onB]
  have hil : i < len := by omega
  obtain ⟨pp, pf, hpf, A1, A2⟩ := hs.at (Γ := EE ax) (i := i) hil (ti27 ax) (ti9 ax)
  have A3 := A2 N g' lim rd' wr p0
  have hsi := h400 i hil
  obtain ⟨a2, n2, g2, e2, o2, l2, k2⟩ := rbytes_run ax hp (ss.getD i nilB) (by omega) N g' lim (ins lim rd' pf) wr (by omega)
  have hel := encS_len _ hsi
  have hil2 := inpL_len c ss (fun i hi => h400 i (by omega)) i (by omega)
  have F1 := o2.first (lim := lim) (rd := ins lim rd' pf) (wr := wr) (k := (encS (ss.getD i nilB)).length) (by omega) (Nat.le_refl _)
  rw [Nat.mul_one, List.take_of_length_le (by rw [bvs_len]; exact Nat.le_refl _)] at F1
  have hown2 := hown.keep (n' := n2) (g' := g2) (fun j _ hj => k2 j hj) l2
  obtain ⟨a3, n3, g3, e3, o3, l3, l3', k3⟩ := hown2.append (bytes := 1) (k := (encS (ss.getD i nilB)).length) (y := .slice a2 (encS (ss.getD i nilB)).length (encS (ss.getD i nilB)).length) (by omega) hl rfl F1 (by rw [bvs_len, Nat.mul_one]) (bvs_one _) (by omega) (by omega)
  rw [← bvs_app] at o3
  repeat apply W.seq
  apply W.block
  repeat apply W.seq
  apply W.region
  · simp (disch := first | omega | (simp (disch := omega) [ev_tmp, ev_const, get_of, upd_same, upd_ne, h1, h5, h6, Tryd.underlying3, Tryd.underlying83, Tryd.underlying5, Tryd.underlying9, Tryd.underlying22]; done) | (apply inK_i64; omega) | (apply inK_u64; omega)) only [op_len, cond_true, cond_false, pick_on, stepC_if, goC_true, goC_false, guard_tt, guard_tf, guard_ft, guard_ff, slot_zero, slot_succ, put_some, runC_cons, runC_nil, stepC_free, dstC_dst, dstC_none, thenC_some, cop_assign, cop_move, cop_conv, cop_bin, cop_un, cop_pick, cop_index, cop_indexAddr, cop_load, cop_store, cop_alloc, cop_box, cop_build, cop_slice, cop_s2a, cop_field, cop_fieldAddr, cop_extract, cop_nilCheck, cop_call, cop_builtin, cop_buildSlice, ev_tmp, ev_const, ev_global, ev_func, put_of, get_of, upd_same, upd_ne, List.toList_toArray, List.map_cons, List.map_nil, some_map, none_map, ti3, ti83, ti5, h1, h5, h6, natOf_nat, A1, A3, e2, op_append (src_u8 ax), app_sl (el_u8 ax), e3]
    with_reducible rfl
  simp only [onN, onB]
  repeat apply W.seq
  apply W.region
  · simp (disch := first | omega | (simp (disch := omega) [ev_tmp, ev_const, get_of, upd_same, upd_ne, h6, Tryd.underlying3, Tryd.underlying83, Tryd.underlying5, Tryd.underlying9, Tryd.underlying22]; done) | (apply inK_i64; omega) | (apply inK_u64; omega)) only [op_len, cond_true, cond_false, pick_on, stepC_if, goC_true, goC_false, guard_tt, guard_tf, guard_ft, guard_ff, slot_zero, slot_succ, put_some, runC_cons, runC_nil, stepC_free, dstC_dst, dstC_none, thenC_some, cop_assign, cop_move, cop_conv, cop_bin, cop_un, cop_pick, cop_index, cop_indexAddr, cop_load, cop_store, cop_alloc, cop_box, cop_build, cop_slice, cop_s2a, cop_field, cop_fieldAddr, cop_extract, cop_nilCheck, cop_call, cop_builtin, cop_buildSlice, ev_tmp, ev_const, ev_global, ev_func, put_of, get_of, upd_same, upd_ne, List.toList_toArray, List.map_cons, List.map_nil, some_map, none_map, ti3, ti83, ti5, oi_add, h6]
    with_reducible rfl
  simp only [onN, onB]
  refine ⟨len - (i + 1), by omega, i + 1, a3, _, n3, g3, _, by omega, rfl, rfl, rfl, by omega, ?_, ?_, ?_, ?_, fun j hj => by rw [k3 _ (by omega), k2 _ (by omega)]; exact p0 j hj⟩
  · simp (disch := omega) only [upd_same, upd_ne, h1]
  · simp (disch := omega) only [upd_same, upd_ne]; rfl
  · simp (disch := omega) only [upd_same, upd_ne, inpL, List.length_append]
  · rw [inpL, List.length_append]; exact o3
theorem dig_cells (M : List UInt8) (i : Nat) (h : i < 16) : (bvs ((sha M).take i) ++ List.replicate (16 - i) (vb 0)).set i (vb ((sha M).getD i 0)) = bvs ((sha M).take (i + 1)) ++ List.replicate (16 - (i + 1)) (vb 0) := by
  have hl := sha_len M
  have e : 16 - i = (16 - (i + 1)) + 1 := by omega
  rw [e, List.replicate_succ, List.set_append_right _ _ (by rw [bvs_len, List.length_take]; omega), bvs_len, List.length_take, show i - min i (sha M).length = 0 by omega, List.set_cons_zero, List.take_add_one, bvs_app, List.append_assoc]
  have : (sha M)[i]?.toList = [(sha M).getD i 0] := by rw [List.getD_eq_getElem?_getD, List.getElem?_eq_getElem (by omega)]; rfl
  rw [this]; rfl
set_option maxHeartbeats 2000000 in
theorem short_run (ax : Axs) (hp : Plain ax) (x : Option Addr) (len cap : Nat) (bs : List UInt8) (hlen : len < 1000000) (n : Nat) (g : Nat → Fam) (lim : Nat) (rd wr : List Nat) (hl : lim ≤ n) (hb : ByteArg g n x len bs) (hG : 0 < n) (hk : rowOf (g 0).rows (0 * 1024) = some (wvs KW)) :
    ∃ n' g' rd', callR Tryd.prog (EE ax) 57 [.slice x len cap] (St n g lim rd wr) = some (.agg (bvs ((sha bs).take 16)).toArray, St n' g' lim rd' wr) ∧ n ≤ n' ∧ (∀ i, i < n → g' i = g i) := by
  have hax : ax 57 = none := hp _ (by decide)
  suffices hh : ∃ v s2, callR Tryd.prog (EE ax) 57 [.slice x len cap] (St n g lim rd wr) = some (v, s2) ∧ v = .agg (bvs ((sha bs).take 16)).toArray ∧ ∃ n' g' rd', s2 = St n' g' lim rd' wr ∧ n ≤ n' ∧ (∀ i, i < n → g' i = g i) by
    obtain ⟨v, s2, h1, rfl, n', g', rd', rfl, h2⟩ := hh
    exact ⟨n', g', rd', h1, h2⟩
  have hsl := sha_len bs
  refine callR_ex (fn := Tryd.f57) 19 hax (fn57 ax) rfl Tryd.ntmps57 (by simp) ?_
  simp (disch := omega) only [ofArgs_cons, ofArgs_nil, Nat.reduceAdd]
  repeat apply W.seq
  apply W.region
  · simp (disch := first | omega | (simp (disch := omega) [ev_tmp, ev_const, get_of, upd_same, upd_ne, Tryd.underlying3, Tryd.underlying83, Tryd.underlying5, Tryd.underlying9, Tryd.underlying22]; done) | (apply inK_i64; omega) | (apply inK_u64; omega)) only [op_len, cond_true, cond_false, pick_on, stepC_if, goC_true, goC_false, guard_tt, guard_tf, guard_ft, guard_ff, slot_zero, slot_succ, put_some, runC_cons, runC_nil, stepC_free, dstC_dst, dstC_none, thenC_some, cop_assign, cop_move, cop_conv, cop_bin, cop_un, cop_pick, cop_index, cop_indexAddr, cop_load, cop_store, cop_alloc, cop_box, cop_build, cop_slice, cop_s2a, cop_field, cop_fieldAddr, cop_extract, cop_nilCheck, cop_call, cop_builtin, cop_buildSlice, ev_tmp, ev_const, ev_global, ev_func, put_of, get_of, upd_same, upd_ne, List.toList_toArray, List.map_cons, List.map_nil, some_map, none_map, ti3, ti83, ti5, alloc_st (tiD ax)]
    with_reducible rfl
  simp only [onN, onB]
  generalize hg0 : fupd g n ⟨false, [(n * 1024 + 0, List.replicate 16 (.int .u8 0))], none⟩ = g0
  have p1 : g0 n = ⟨false, [(n * 1024 + 0, List.replicate 16 (vb 0))], none⟩ := by rw [← hg0, fupd_same]; rfl
  have p0 : ∀ i, i < n → g0 i = g i := fun i hi => by rw [← hg0, fupd_ne _ _ _ _ (by omega)]
  clear hg0
  have hb2 : ByteArg g0 (n + 1) x len bs := by
    refine ⟨hb.1, hb.2.imp id ?_⟩
    rintro ⟨f, u, off, cs, rfl, h1, h2, h3⟩
    exact ⟨f, u, off, cs, rfl, by omega, by rw [p0 f h1]; exact h2, h3⟩
  obtain ⟨n2, g2, rd2, e2, a1, a2, -⟩ := rsum_run ax hp x len cap bs (by omega) (n + 1) g0 lim rd wr (by omega) hb2 (by omega) (by rw [p0 _ hG]; exact hk)
  have S1 := st_all (n := n2 + 1) (lim := lim) (rd := rd2) (wr := wr) (ti24 ax) (g := fupd g2 n2 ⟨false, [(n2 * 1024 + 0, List.replicate 32 (.int .u8 0))], none⟩) (f := n2) (u := n2 * 1024 + 0) (vs := bvs (sha bs)) (fupd_same _ _ _) (by rw [bvs_len, hsl]) (by simp) (bvs_one _)
  rw [fupd_fupd, ins_ge (f := n2) _ (by omega)] at S1
  repeat apply W.seq
  apply W.region
  · simp (disch := first | omega | (simp (disch := omega) [ev_tmp, ev_const, get_of, upd_same, upd_ne, Tryd.underlying3, Tryd.underlying83, Tryd.underlying5, Tryd.underlying9, Tryd.underlying22]; done) | (apply inK_i64; omega) | (apply inK_u64; omega)) only [op_len, cond_true, cond_false, pick_on, stepC_if, goC_true, goC_false, guard_tt, guard_tf, guard_ft, guard_ff, slot_zero, slot_succ, put_some, runC_cons, runC_nil, stepC_free, dstC_dst, dstC_none, thenC_some, cop_assign, cop_move, cop_conv, cop_bin, cop_un, cop_pick, cop_index, cop_indexAddr, cop_load, cop_store, cop_alloc, cop_box, cop_build, cop_slice, cop_s2a, cop_field, cop_fieldAddr, cop_extract, cop_nilCheck, cop_call, cop_builtin, cop_buildSlice, ev_tmp, ev_const, ev_global, ev_func, put_of, get_of, upd_same, upd_ne, List.toList_toArray, List.map_cons, List.map_nil, some_map, none_map, ti3, ti83, ti5, e2, alloc_st (ti24 ax), cells_agg, S1]
    with_reducible rfl
  simp only [onN, onB]
  have S2 := st_all (n := n2 + 1 + 1) (lim := lim) (rd := rd2) (wr := wr) (tiD ax) (g := fupd (fupd g2 n2 ⟨false, [(n2 * 1024 + 0, bvs (sha bs))], none⟩) (n2 + 1) ⟨false, [((n2 + 1) * 1024 + 0, List.replicate 16 (.int .u8 0))], none⟩) (f := n2 + 1) (u := (n2 + 1) * 1024 + 0) (vs := List.replicate 16 (.int .u8 0)) (fupd_same _ _ _) (by simp) (by simp) rfl
  rw [fupd_fupd, ins_ge (f := n2 + 1) _ (by omega)] at S2
  repeat apply W.seq
  apply W.region
  · simp (disch := first | omega | (simp (disch := omega) [ev_tmp, ev_const, get_of, upd_same, upd_ne, Tryd.underlying3, Tryd.underlying83, Tryd.underlying5, Tryd.underlying9, Tryd.underlying22]; done) | (apply inK_i64; omega) | (apply inK_u64; omega)) only [op_len, cond_true, cond_false, pick_on, stepC_if, goC_true, goC_false, guard_tt, guard_tf, guard_ft, guard_ff, slot_zero, slot_succ, put_some, runC_cons, runC_nil, stepC_free, dstC_dst, dstC_none, thenC_some, cop_assign, cop_move, cop_conv, cop_bin, cop_un, cop_pick, cop_index, cop_indexAddr, cop_load, cop_store, cop_alloc, cop_box, cop_build, cop_slice, cop_s2a, cop_field, cop_fieldAddr, cop_extract, cop_nilCheck, cop_call, cop_builtin, cop_buildSlice, ev_tmp, ev_const, ev_global, ev_func, put_of, get_of, upd_same, upd_ne, List.toList_toArray, List.map_cons, List.map_nil, some_map, none_map, ti3, ti83, ti5, bld16 ax, alloc_st (tiD ax), cells_agg, S2]
    with_reducible rfl
  simp only [onN, onB]
  generalize hg3 : fupd (fupd g2 n2 ⟨false, [(n2 * 1024 + 0, bvs (sha bs))], none⟩) (n2 + 1) ⟨false, [((n2 + 1) * 1024 + 0, List.replicate 16 (.int .u8 0))], none⟩ = g3
  have q1 : g3 n = ⟨false, [(n * 1024 + 0, List.replicate 16 (vb 0))], none⟩ := by rw [← hg3, fupd_ne _ _ _ _ (by omega), fupd_ne _ _ _ _ (by omega), a2 _ (by omega)]; exact p1
  have q2 : g3 n2 = ⟨false, [(n2 * 1024 + 0, bvs (sha bs))], none⟩ := by rw [← hg3, fupd_ne _ _ _ _ (by omega), fupd_same]
  have q3 : g3 (n2 + 1) = ⟨false, [((n2 + 1) * 1024 + 0, bvs ((sha bs).take 0) ++ List.replicate (16 - 0) (vb 0))], none⟩ := by rw [← hg3, fupd_same]; rfl
  have q0 : ∀ i, i < n → g3 i = g i := fun i hi => by rw [← hg3, fupd_ne _ _ _ _ (by omega), fupd_ne _ _ _ _ (by omega), a2 _ (by omega)]; exact p0 i hi
  clear hg3 S1 S2 e2 p1 p0
  repeat apply W.seq
  apply W.region
  · simp (disch := first | omega | (simp (disch := omega) [ev_tmp, ev_const, get_of, upd_same, upd_ne, Tryd.underlying3, Tryd.underlying83, Tryd.underlying5, Tryd.underlying9, Tryd.underlying22]; done) | (apply inK_i64; omega) | (apply inK_u64; omega)) only [op_len, cond_true, cond_false, pick_on, stepC_if, goC_true, goC_false, guard_tt, guard_tf, guard_ft, guard_ff, slot_zero, slot_succ, put_some, runC_cons, runC_nil, stepC_free, dstC_dst, dstC_none, thenC_some, cop_assign, cop_move, cop_conv, cop_bin, cop_un, cop_pick, cop_index, cop_indexAddr, cop_load, cop_store, cop_alloc, cop_box, cop_build, cop_slice, cop_s2a, cop_field, cop_fieldAddr, cop_extract, cop_nilCheck, cop_call, cop_builtin, cop_buildSlice, ev_tmp, ev_const, ev_global, ev_func, put_of, get_of, upd_same, upd_ne, List.toList_toArray, List.map_cons, List.map_nil, some_map, none_map, ti3, ti83, ti5]
    with_reducible rfl
  simp only [onN, onB]
  repeat apply W.seq
  apply W.block
  refine W.loop (fun m fr s => ∃ (i : Nat) (h : Nat → Value) (g' : Nat → Fam), i ≤ 16 ∧ m = 16 - i ∧ fr = Fr.of 19 h ∧ s = St (n2 + 1 + 1) g' lim rd2 wr ∧ h 2 = .pointer (some (mkA n (n * 1024 + 0) 0)) ∧ h 3 = .pointer (some (mkA n2 (n2 * 1024 + 0) 0)) ∧ h 4 = .pointer (some (mkA (n2 + 1) ((n2 + 1) * 1024 + 0) 0)) ∧ h 5 = .int .i64 (i : Int) ∧ g' n = ⟨false, [(n * 1024 + 0, List.replicate 16 (vb 0))], none⟩ ∧ g' n2 = ⟨false, [(n2 * 1024 + 0, bvs (sha bs))], none⟩ ∧ g' (n2 + 1) = ⟨false, [((n2 + 1) * 1024 + 0, bvs ((sha bs).take i) ++ List.replicate (16 - i) (vb 0))], none⟩ ∧ (∀ i, i < n → g' i = g i)) ?_ (16 - 0) _ _ ⟨0, _, g3, by omega, rfl, rfl, rfl, ?_, ?_, ?_, ?_, q1, q2, q3, q0⟩
  case refine_2 => simp (disch := omega) only [upd_same, upd_ne]
  case refine_3 => simp (disch := omega) only [upd_same, upd_ne]
  case refine_4 => simp (disch := omega) only [upd_same, upd_ne]
  case refine_5 => simp (disch := omega) only [upd_same, upd_ne]; rfl
  clear q1 q2 q3 q0
  rintro m fr s ⟨i, h, g', hi, rfl, rfl, rfl, h2, h3, h4, h5, q1, q2, q3, q0⟩
  repeat apply W.seq
  apply W.region
  · simp (disch := first | omega | (simp (disch := omega) [ev_tmp, ev_const, get_of, upd_same, upd_ne, h5, Tryd.underlying3, Tryd.underlying83, Tryd.underlying5, Tryd.underlying9, Tryd.underlying22]; done) | (apply inK_i64; omega) | (apply inK_u64; omega)) only [op_len, cond_true, cond_false, pick_on, stepC_if, goC_true, goC_false, guard_tt, guard_tf, guard_ft, guard_ff, slot_zero, slot_succ, put_some, runC_cons, runC_nil, stepC_free, dstC_dst, dstC_none, thenC_some, cop_assign, cop_move, cop_conv, cop_bin, cop_un, cop_pick, cop_index, cop_indexAddr, cop_load, cop_store, cop_alloc, cop_box, cop_build, cop_slice, cop_s2a, cop_field, cop_fieldAddr, cop_extract, cop_nilCheck, cop_call, cop_builtin, cop_buildSlice, ev_tmp, ev_const, ev_global, ev_func, put_of, get_of, upd_same, upd_ne, List.toList_toArray, List.map_cons, List.map_nil, some_map, none_map, ti3, ti83, ti5, oi_lss, h5]
    with_reducible rfl
  simp only [onN, onB]
  by_cases hl16 : (i : Int) < 16
  case neg =>
    repeat apply W.seq
    refine W.cond (b := false) ?_ ?_
    · simp (disch := omega) only [ev_tmp, get_of, upd_same, upd_ne, hl16, decide_true, decide_false]
    simp only [cond_true, cond_false]
    apply W.exit
    simp only [onN, onB, Nat.beq_refl, cond_true, cond_false, bexit]
    have hi' : i = 16 := by omega
    subst hi'
    have hbl : bvs ((sha bs).take 16) ++ List.replicate (16 - 16) (vb 0) = bvs ((sha bs).take 16) := by rw [Nat.sub_self, List.replicate_zero, List.append_nil]
    rw [hbl] at q3
    have h16 : (bvs ((sha bs).take 16)).length = 16 := by rw [bvs_len, List.length_take]; omega
    have L1 := ld_all (n := n2 + 1 + 1) (lim := lim) (rd := rd2) (wr := wr) (tiD ax) rfl (g := g') (f := n2 + 1) (u := (n2 + 1) * 1024 + 0) (cs := bvs ((sha bs).take 16)) (by rw [q3]; exact rowOf_one) h16
    rw [ins_ge (f := n2 + 1) _ (by omega)] at L1
    have S1 := st_all (n := n2 + 1 + 1) (lim := lim) (rd := rd2) (wr := wr) (tiD ax) (f := n) (u := n * 1024 + 0) (vs := bvs ((sha bs).take 16)) q1 h16 (by simp) (bvs_one _)
    rw [ins_ge (f := n) _ (by omega)] at S1
    repeat apply W.seq
    apply W.region
    · simp (disch := first | omega | (simp (disch := omega) [ev_tmp, ev_const, get_of, upd_same, upd_ne, h2, h4, Tryd.underlying3, Tryd.underlying83, Tryd.underlying5, Tryd.underlying9, Tryd.underlying22]; done) | (apply inK_i64; omega) | (apply inK_u64; omega)) only [op_len, cond_true, cond_false, pick_on, stepC_if, goC_true, goC_false, guard_tt, guard_tf, guard_ft, guard_ff, slot_zero, slot_succ, put_some, runC_cons, runC_nil, stepC_free, dstC_dst, dstC_none, thenC_some, cop_assign, cop_move, cop_conv, cop_bin, cop_un, cop_pick, cop_index, cop_indexAddr, cop_load, cop_store, cop_alloc, cop_box, cop_build, cop_slice, cop_s2a, cop_field, cop_fieldAddr, cop_extract, cop_nilCheck, cop_call, cop_builtin, cop_buildSlice, ev_tmp, ev_const, ev_global, ev_func, put_of, get_of, upd_same, upd_ne, List.toList_toArray, List.map_cons, List.map_nil, some_map, none_map, ti3, ti83, ti5, h2, h4, L1, cells_agg, S1]
      with_reducible rfl
    simp only [onN, onB]
    apply W.ret
    refine ⟨.inr rfl, [.agg (bvs ((sha bs).take 16)).toArray], St (n2 + 1 + 1) (fupd g' n ⟨false, [(n * 1024 + 0, bvs ((sha bs).take 16))], none⟩) lim rd2 wr, ?_, rfl, n2 + 1 + 1, _, rd2, rfl, by omega, fun i hi => by rw [fupd_ne _ _ _ _ (by omega)]; exact q0 i hi⟩
    have L2 := ld_all (n := n2 + 1 + 1) (lim := lim) (rd := rd2) (wr := wr) (tiD ax) rfl (g := fupd g' n ⟨false, [(n * 1024 + 0, bvs ((sha bs).take 16))], none⟩) (f := n) (u := n * 1024 + 0) (cs := bvs ((sha bs).take 16)) (by rw [fupd_same]; exact rowOf_one) h16
    rw [ins_ge (f := n) _ (by omega)] at L2
    simp (disch := first | omega | (simp (disch := omega) only [get_of, upd_same, upd_ne, h2]; done)) only [resC_cell (ad := mkA n (n * 1024 + 0) 0), resC_nil, Tryd.results57, L2, resThen_some, resAdd_some]
  repeat apply W.seq
  refine W.cond (b := true) ?_ ?_
  · simp (disch := omega) only [ev_tmp, get_of, upd_same, upd_ne, hl16, decide_true, decide_false]
  simp only [cond_true, cond_false]
  apply W.skip
  simp only [onN, onB]
  have hil : i < 16 := by omega
  have L1 := ld_one (n := n2 + 1 + 1) (lim := lim) (rd := rd2) (wr := wr) (ti5 ax) rfl (g := g') (f := n2) (u := n2 * 1024 + 0) (off := 0 + i) (cs := bvs (sha bs)) (by rw [q2]; exact rowOf_one) (by rw [Nat.zero_add]; exact bvs_get (by omega))
  rw [ins_ge (f := n2) _ (by omega)] at L1
  have S1 := st_one (n := n2 + 1 + 1) (lim := lim) (rd := rd2) (wr := wr) (ti5 ax) (f := n2 + 1) (u := (n2 + 1) * 1024 + 0) (off := 0 + i) (v := vb ((sha bs).getD i 0)) q3 (by rw [List.length_append, bvs_len, List.length_take, List.length_replicate]; omega) rfl
  rw [ins_ge (f := n2 + 1) _ (by omega)] at S1
  repeat apply W.seq
  apply W.block
  repeat apply W.seq
  apply W.region
  · simp (disch := first | omega | (simp (disch := omega) [ev_tmp, ev_const, get_of, upd_same, upd_ne, h3, h4, h5, Tryd.underlying3, Tryd.underlying83, Tryd.underlying5, Tryd.underlying9, Tryd.underlying22]; done) | (apply inK_i64; omega) | (apply inK_u64; omega)) only [op_len, cond_true, cond_false, pick_on, stepC_if, goC_true, goC_false, guard_tt, guard_tf, guard_ft, guard_ff, slot_zero, slot_succ, put_some, runC_cons, runC_nil, stepC_free, dstC_dst, dstC_none, thenC_some, cop_assign, cop_move, cop_conv, cop_bin, cop_un, cop_pick, cop_index, cop_indexAddr, cop_load, cop_store, cop_alloc, cop_box, cop_build, cop_slice, cop_s2a, cop_field, cop_fieldAddr, cop_extract, cop_nilCheck, cop_call, cop_builtin, cop_buildSlice, ev_tmp, ev_const, ev_global, ev_func, put_of, get_of, upd_same, upd_ne, List.toList_toArray, List.map_cons, List.map_nil, some_map, none_map, ti3, ti83, ti5, h3, h4, h5, natOf_nat, idx_arr (ti24 ax) (ti5 ax) (show i < 32 by omega), idx_arr (tiD ax) (ti5 ax) hil, L1, cells_vb, S1]
    with_reducible rfl
  simp only [onN, onB]
  repeat apply W.seq
  apply W.region
  · simp (disch := first | omega | (simp (disch := omega) [ev_tmp, ev_const, get_of, upd_same, upd_ne, h5, Tryd.underlying3, Tryd.underlying83, Tryd.underlying5, Tryd.underlying9, Tryd.underlying22]; done) | (apply inK_i64; omega) | (apply inK_u64; omega)) only [op_len, cond_true, cond_false, pick_on, stepC_if, goC_true, goC_false, guard_tt, guard_tf, guard_ft, guard_ff, slot_zero, slot_succ, put_some, runC_cons, runC_nil, stepC_free, dstC_dst, dstC_none, thenC_some, cop_assign, cop_move, cop_conv, cop_bin, cop_un, cop_pick, cop_index, cop_indexAddr, cop_load, cop_store, cop_alloc, cop_box, cop_build, cop_slice, cop_s2a, cop_field, cop_fieldAddr, cop_extract, cop_nilCheck, cop_call, cop_builtin, cop_buildSlice, ev_tmp, ev_const, ev_global, ev_func, put_of, get_of, upd_same, upd_ne, List.toList_toArray, List.map_cons, List.map_nil, some_map, none_map, ti3, ti83, ti5, oi_add, h5]
    with_reducible rfl
  simp only [onN, onB]
  refine ⟨16 - (i + 1), by omega, i + 1, _, _, by omega, rfl, rfl, rfl, ?_, ?_, ?_, ?_, ?_, ?_, ?_, ?_⟩
  · simp (disch := omega) only [upd_same, upd_ne, h2]
  · simp (disch := omega) only [upd_same, upd_ne, h3]
  · simp (disch := omega) only [upd_same, upd_ne, h4]
  · simp (disch := omega) only [upd_same, upd_ne]; rfl
  · rw [fupd_ne _ _ _ _ (by omega)]; exact q1
  · rw [fupd_ne _ _ _ _ (by omega)]; exact q2
  · rw [fupd_same, Nat.zero_add, dig_cells bs i hil]
  · intro i hi; rw [fupd_ne _ _ _ _ (by omega)]; exact q0 i hi
set_option maxHeartbeats 1000000 in
theorem rof_run (ax : Axs) (hp : Plain ax) (tag : Int) (x : Option Addr) (len cap : Nat) (ss : List ByteArray) (h12 : len ≤ 12) (h400 : ∀ i, i < len → (ss.getD i nilB).size ≤ 400) (n : Nat) (g : Nat → Fam) (lim : Nat) (rd wr : List Nat) (hl : lim ≤ n) (hs : StrArg g n x len cap ss) (hG : 0 < n) (hk : rowOf (g 0).rows (0 * 1024) = some (wvs KW)) :
    ∃ n' g' rd', callR Tryd.prog (EE ax) 28 [.int .i64 tag, .slice x len cap] (St n g lim rd wr) = some (.agg (bvs ((sha (inpL (byteOf tag) ss len)).take 16)).toArray, St n' g' lim rd' wr) ∧ n ≤ n' ∧ (∀ i, i < n → g' i = g i) := by
  have hax : ax 28 = none := hp _ (by decide)
  have hsl := hs.1
  have hil := inpL_len (byteOf tag) ss (fun i hi => h400 i (by omega)) len (by omega)
  suffices hh : ∃ v s2, callR Tryd.prog (EE ax) 28 [.int .i64 tag, .slice x len cap] (St n g lim rd wr) = some (v, s2) ∧ v = .agg (bvs ((sha (inpL (byteOf tag) ss len)).take 16)).toArray ∧ ∃ n' g' rd', s2 = St n' g' lim rd' wr ∧ n ≤ n' ∧ (∀ i, i < n → g' i = g i) by
    obtain ⟨v, s2, h1, rfl, n', g', rd', rfl, h2⟩ := hh
    exact ⟨n', g', rd', h1, h2⟩
  refine callR_ex (fn := Tryd.f28) 9 hax (fn28 ax) rfl Tryd.ntmps28 (by simp) ?_
  simp (disch := omega) only [ofArgs_cons, ofArgs_nil, Nat.reduceAdd]
  repeat apply W.seq
  apply W.region
  · simp (disch := first | omega | (simp (disch := omega) [ev_tmp, ev_const, get_of, upd_same, upd_ne, Tryd.underlying3, Tryd.underlying83, Tryd.underlying5, Tryd.underlying9, Tryd.underlying22]; done) | (apply inK_i64; omega) | (apply inK_u64; omega)) only [op_len, cond_true, cond_false, pick_on, stepC_if, goC_true, goC_false, guard_tt, guard_tf, guard_ft, guard_ff, slot_zero, slot_succ, put_some, runC_cons, runC_nil, stepC_free, dstC_dst, dstC_none, thenC_some, cop_assign, cop_move, cop_conv, cop_bin, cop_un, cop_pick, cop_index, cop_indexAddr, cop_load, cop_store, cop_alloc, cop_box, cop_build, cop_slice, cop_s2a, cop_field, cop_fieldAddr, cop_extract, cop_nilCheck, cop_call, cop_builtin, cop_buildSlice, ev_tmp, ev_const, ev_global, ev_func, put_of, get_of, upd_same, upd_ne, List.toList_toArray, List.map_cons, List.map_nil, some_map, none_map, ti3, ti83, ti5, alloc_st (tiD ax)]
    with_reducible rfl
  simp only [onN, onB]
  generalize hg0 : fupd g n ⟨false, [(n * 1024 + 0, List.replicate 16 (.int .u8 0))], none⟩ = g0
  have p1 : g0 n = ⟨false, [(n * 1024 + 0, List.replicate 16 (vb 0))], none⟩ := by rw [← hg0, fupd_same]; rfl
  have p0 : ∀ i, i < n → g0 i = g i := fun i hi => by rw [← hg0, fupd_ne _ _ _ _ (by omega)]
  clear hg0
  obtain ⟨a2, n2, g2, rd2, e2, o2, l2, k2⟩ := inp_run ax hp tag x len cap ss h12 h400 (n + 1) g0 lim rd wr (by omega) (hs.keep p0 (by omega))
  obtain ⟨n3, g3, rd3, e3, l3, k3⟩ := short_run ax hp a2 (inpL (byteOf tag) ss len).length (inpL (byteOf tag) ss len).length (inpL (byteOf tag) ss len) (by omega) n2 g2 lim rd2 wr (by omega) o2.barg (by omega) (by rw [k2 _ (by omega), p0 _ hG]; exact hk)
  have h16 : (bvs ((sha (inpL (byteOf tag) ss len)).take 16)).length = 16 := by rw [bvs_len, List.length_take, sha_len]; rfl
  have S1 := st_all (n := n3) (lim := lim) (rd := rd3) (wr := wr) (tiD ax) (g := g3) (f := n) (u := n * 1024 + 0) (vs := bvs ((sha (inpL (byteOf tag) ss len)).take 16)) (cs := List.replicate 16 (vb 0)) (es := none) (by rw [k3 _ (by omega), k2 _ (by omega)]; exact p1) h16 (by simp) (bvs_one _)
  rw [ins_ge (f := n) _ (by omega)] at S1
  repeat apply W.seq
  apply W.region
  · simp (disch := first | omega | (simp (disch := omega) [ev_tmp, ev_const, get_of, upd_same, upd_ne, Tryd.underlying3, Tryd.underlying83, Tryd.underlying5, Tryd.underlying9, Tryd.underlying22]; done) | (apply inK_i64; omega) | (apply inK_u64; omega)) only [op_len, cond_true, cond_false, pick_on, stepC_if, goC_true, goC_false, guard_tt, guard_tf, guard_ft, guard_ff, slot_zero, slot_succ, put_some, runC_cons, runC_nil, stepC_free, dstC_dst, dstC_none, thenC_some, cop_assign, cop_move, cop_conv, cop_bin, cop_un, cop_pick, cop_index, cop_indexAddr, cop_load, cop_store, cop_alloc, cop_box, cop_build, cop_slice, cop_s2a, cop_field, cop_fieldAddr, cop_extract, cop_nilCheck, cop_call, cop_builtin, cop_buildSlice, ev_tmp, ev_const, ev_global, ev_func, put_of, get_of, upd_same, upd_ne, List.toList_toArray, List.map_cons, List.map_nil, some_map, none_map, ti3, ti83, ti5, e2, e3, cells_agg, S1]
    with_reducible rfl
  simp only [onN, onB]
  apply W.ret
  refine ⟨.inr rfl, [.agg (bvs ((sha (inpL (byteOf tag) ss len)).take 16)).toArray], St n3 (fupd g3 n ⟨false, [(n * 1024 + 0, bvs ((sha (inpL (byteOf tag) ss len)).take 16))], none⟩) lim rd3 wr, ?_, rfl, n3, _, rd3, rfl, by omega, fun i hi => by rw [fupd_ne _ _ _ _ (by omega), k3 _ (by omega), k2 _ (by omega)]; exact p0 i hi⟩
  have L2 := ld_all (n := n3) (lim := lim) (rd := rd3) (wr := wr) (tiD ax) rfl (g := fupd g3 n ⟨false, [(n * 1024 + 0, bvs ((sha (inpL (byteOf tag) ss len)).take 16))], none⟩) (f := n) (u := n * 1024 + 0) (cs := bvs ((sha (inpL (byteOf tag) ss len)).take 16)) (by rw [fupd_same]; exact rowOf_one) h16
  rw [ins_ge (f := n) _ (by omega)] at L2
  simp (disch := first | omega | (simp (disch := omega) only [get_of, upd_same, upd_ne]; done)) only [resC_cell (ad := mkA n (n * 1024 + 0) 0), resC_nil, Tryd.results28, L2, resThen_some, resAdd_some]
end Go.Proofs.YtcmfoipnoejmlaaDoor
