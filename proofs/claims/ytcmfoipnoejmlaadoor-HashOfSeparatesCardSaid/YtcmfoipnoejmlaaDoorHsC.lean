/- SHA-256 on lists: blocks, streams, padding. No program in sight. -/
import Derived.Test.YtcmfoipnoejmlaaDoorHsB
import Derived.Test.YtcmfoipnoejmlaaDoorCmC
set_option linter.unusedSimpArgs false
set_option linter.unusedVariables false
set_option linter.unusedSectionVars false
namespace Go.Proofs.YtcmfoipnoejmlaaDoor
open Go Go.RowKit
def IVW : List UInt32 := [1779033703, 3144134277, 1013904242, 2773480762, 1359893119, 2600822924, 528734635, 1541459225]
/-- the state behind i blocks -/
def blocks (M : List UInt8) : Nat → List UInt32
  | 0 => IVW
  | i + 1 => comp KW (blocks M i) ((M.drop (64 * i)).take 64)
theorem blocks_len (M : List UInt8) : ∀ i, (blocks M i).length = 8
  | 0 => rfl
  | i + 1 => by rw [blocks, comp_len, blocks_len M i]
theorem blocks_app (M p : List UInt8) : ∀ i, 64 * i ≤ M.length → blocks (M ++ p) i = blocks M i
  | 0, _ => rfl
  | i + 1, h => by
    rw [blocks, blocks, blocks_app M p i (by omega)]
    congr 1
    rw [List.drop_append_of_le_length (by omega), List.take_append_of_le_length (by rw [List.length_drop]; omega)]
/-- a stream's fields stand for the bytes M -/
structure Repr (M : List UInt8) (st : List UInt32) (blk : List UInt8) : Prop where
  eq : st = blocks M (M.length / 64)
  size : blk.length = 64
  rest : blk.take (M.length % 64) = M.drop (64 * (M.length / 64))
theorem Repr.start (blk : List UInt8) (h : blk.length = 64) : Repr [] IVW blk := ⟨rfl, h, rfl⟩
theorem Repr.len {M : List UInt8} {st : List UInt32} {blk : List UInt8} (h : Repr M st blk) : st.length = 8 := by rw [h.eq]; exact blocks_len _ _
/-- the block with a piece laid in at a place -/
def lay (blk : List UInt8) (at' : Nat) (p : List UInt8) : List UInt8 := blk.take at' ++ p ++ blk.drop (at' + p.length)
theorem lay_len {blk p : List UInt8} {a : Nat} (h : a + p.length ≤ blk.length) : (lay blk a p).length = blk.length := by
  unfold lay
  rw [List.length_append, List.length_append, List.length_take, List.length_drop]
  omega
theorem Repr.more {M p : List UInt8} {st : List UInt32} {blk : List UInt8} (h : Repr M st blk) (hp : M.length % 64 + p.length < 64) : Repr (M ++ p) st (lay blk (M.length % 64) p) := by
  have hb := h.size
  have hl : (M ++ p).length = M.length + p.length := List.length_append
  have hd : (M ++ p).length / 64 = M.length / 64 := by rw [hl]; omega
  have hm : (M ++ p).length % 64 = M.length % 64 + p.length := by rw [hl]; omega
  refine ⟨?_, by rw [lay_len (by omega), hb], ?_⟩
  · rw [hd, blocks_app M p _ (by omega)]; exact h.eq
  · rw [hd, hm]
    have ht : (blk.take (M.length % 64)).length = M.length % 64 := by rw [List.length_take]; omega
    unfold lay
    rw [List.take_append_of_le_length (by rw [List.length_append, ht]; omega), List.take_of_length_le (by rw [List.length_append, ht]; omega), h.rest, List.drop_append_of_le_length (by omega)]
theorem Repr.full {M p : List UInt8} {st : List UInt32} {blk : List UInt8} (h : Repr M st blk) (hp : M.length % 64 + p.length = 64) : Repr (M ++ p) (comp KW st (lay blk (M.length % 64) p)) (lay blk (M.length % 64) p) := by
  have hb := h.size
  have hl : (M ++ p).length = M.length + p.length := List.length_append
  have hd : (M ++ p).length / 64 = M.length / 64 + 1 := by rw [hl]; omega
  have hm : (M ++ p).length % 64 = 0 := by rw [hl]; omega
  have hlay : lay blk (M.length % 64) p = ((M ++ p).drop (64 * (M.length / 64))).take 64 := by
    unfold lay
    rw [hp, List.drop_of_length_le (by omega), List.append_nil, h.rest, List.drop_append_of_le_length (by omega), List.take_of_length_le]
    rw [List.length_append, List.length_drop]; omega
  refine ⟨?_, by rw [lay_len (by omega), hb], ?_⟩
  · rw [hd, blocks, blocks_app M p _ (by omega), ← h.eq, hlay]
  · rw [hm, hd, List.take_zero, List.drop_of_length_le (by rw [hl]; omega)]
/-- the bytes that are appended: the mark, zeros, the length -/
def zerosN (n : Nat) : Nat := (119 - n % 64) % 64
def lenB (n : Nat) (i : Nat) : UInt8 := (shr64 (UInt64.ofNat (8 * n)) (56 - 8 * i)).toUInt8
def lens (n : Nat) : Nat → List UInt8
  | 0 => []
  | i + 1 => lens n i ++ [lenB n i]
def padB (n : Nat) : List UInt8 := 128 :: List.replicate (zerosN n) 0 ++ lens n 8
theorem lens_len (n : Nat) : ∀ i, (lens n i).length = i
  | 0 => rfl
  | i + 1 => by rw [lens, List.length_append, lens_len n i]; rfl
theorem padB_len (n : Nat) : (padB n).length = zerosN n + 9 := by unfold padB; simp [lens_len]
theorem pad_mod (M : List UInt8) : (M ++ padB M.length).length % 64 = 0 := by
  rw [List.length_append, padB_len]; unfold zerosN; omega
/-- the bytes of the words -/
def outB (st : List UInt32) (i : Nat) : UInt8 := (shr32 (st.getD (i / 4) 0) (24 - 8 * (i % 4))).toUInt8
def outs (st : List UInt32) : Nat → List UInt8
  | 0 => []
  | i + 1 => outs st i ++ [outB st i]
theorem outs_len (st : List UInt32) : ∀ i, (outs st i).length = i
  | 0 => rfl
  | i + 1 => by rw [outs, List.length_append, outs_len st i]; rfl
def shaW (M : List UInt8) : List UInt32 := blocks (M ++ padB M.length) ((M ++ padB M.length).length / 64)
def sha (M : List UInt8) : List UInt8 := outs (shaW M) 32
theorem sha_len (M : List UInt8) : (sha M).length = 32 := outs_len _ _
/-- a stream as cells -/
def cellsS (st : List UInt32) (blk : List UInt8) (c : Nat) : List Value := wvs st ++ (bvs blk ++ [.int .u64 (c : Int)])
section
variable {st : List UInt32} {blk : List UInt8} {c : Nat} (h8 : st.length = 8) (h64 : blk.length = 64)
include h8 h64
theorem cellsS_len : (cellsS st blk c).length = 73 := by unfold cellsS; simp [wvs_len, bvs_len, h8, h64]
theorem cellsS_st : ((cellsS st blk c).drop 0).take 8 = wvs st := by
  unfold cellsS
  rw [List.drop_zero, List.take_append_of_le_length (by rw [wvs_len]; omega), List.take_of_length_le (by rw [wvs_len]; omega)]
theorem cellsS_blk : ((cellsS st blk c).drop 8).take 64 = bvs blk := by
  unfold cellsS
  rw [List.drop_append_of_le_length (by rw [wvs_len]; omega), List.drop_of_length_le (by rw [wvs_len]; omega), List.nil_append, List.take_append_of_le_length (by rw [bvs_len]; omega), List.take_of_length_le (by rw [bvs_len]; omega)]
theorem cellsS_word {i : Nat} (hi : i < 8) : (cellsS st blk c)[i]? = some (vw (st.getD i 0)) := by
  unfold cellsS
  rw [List.getElem?_append_left (by rw [wvs_len]; omega)]
  exact wvs_get (by omega)
theorem cellsS_cnt : (cellsS st blk c)[72]? = some (.int .u64 (c : Int)) := by
  unfold cellsS
  rw [List.getElem?_append_right (by rw [wvs_len]; omega), List.getElem?_append_right (by rw [bvs_len, wvs_len]; omega), wvs_len, bvs_len, h8, h64]
  rfl
theorem cellsS_setc {c' : Nat} : (cellsS st blk c).set 72 (.int .u64 (c' : Int)) = cellsS st blk c' := by
  unfold cellsS
  rw [List.set_append_right _ _ (by rw [wvs_len]; omega), List.set_append_right _ _ (by rw [bvs_len, wvs_len]; omega), wvs_len, bvs_len, h8, h64]
  rfl
theorem cellsS_lay {a : Nat} {p : List UInt8} (hp : a + p.length ≤ 64) : splice (cellsS st blk c) (8 + a) (bvs p) = cellsS st (lay blk a p) c := by
  unfold splice cellsS lay
  have e1 : (wvs st ++ (bvs blk ++ [Value.int .u64 (c : Int)])).take (8 + a) = wvs st ++ bvs (blk.take a) := by
    rw [List.take_append, List.take_of_length_le (by rw [wvs_len]; omega), wvs_len, h8, show 8 + a - 8 = a by omega, List.take_append_of_le_length (by rw [bvs_len]; omega), bvs_take]
  have e2 : (wvs st ++ (bvs blk ++ [Value.int .u64 (c : Int)])).drop (8 + a + (bvs p).length) = bvs (blk.drop (a + p.length)) ++ [.int .u64 (c : Int)] := by
    rw [bvs_len, List.drop_append, List.drop_of_length_le (by rw [wvs_len]; omega), List.nil_append, wvs_len, h8, show 8 + a + p.length - 8 = a + p.length by omega, List.drop_append_of_le_length (by rw [bvs_len]; omega), bvs_drop]
  rw [e1, e2, bvs_app, bvs_app]
  simp only [List.append_assoc]
theorem cellsS_state {st' : List UInt32} (h' : st'.length = 8) : splice (cellsS st blk c) 0 (wvs st') = cellsS st' blk c := by
  unfold splice cellsS
  rw [List.take_zero, List.nil_append, Nat.zero_add, wvs_len, h', List.drop_append_of_le_length (by rw [wvs_len]; omega), List.drop_of_length_le (by rw [wvs_len]; omega), List.nil_append]
end
theorem cellsS_one (st : List UInt32) (blk : List UInt8) (c : Nat) : (cellsS st blk c).all oneC = true := by
  unfold cellsS
  rw [List.all_append, List.all_append, wvs_one, bvs_one]
  rfl
def strV (st : List UInt32) (blk : List UInt8) (c : Nat) : Value := .agg (cellsS st blk c).toArray
end Go.Proofs.YtcmfoipnoejmlaaDoor
namespace Go.Proofs.YtcmfoipnoejmlaaDoor
open Go Go.RowKit
set_option linter.unusedSimpArgs false
set_option linter.unusedVariables false
set_option maxRecDepth 100000
noncomputable def tiS : TI := ((EE fun _ => none).ti.at 34).getD ⟨.bool, 0, 0, []⟩
theorem tiS_at (ax : Axs) : (EE ax).ti.at 34 = some ⟨tiS.desc, 73, tiS.bytes, cellsS (List.replicate 8 0) (List.replicate 64 0) 0⟩ := by kernel_rfl
theorem tiS_agg : aggT tiS.desc = true := by kernel_rfl
theorem fa0 (ax : Axs) (s : CS) (f u off : Nat) : opFieldAddr (EE ax) s 34 0 (.pointer (some (mkA f u off))) = some (.pointer (some (mkA f u (off + 0))), s) := by kernel_rfl
theorem fa1 (ax : Axs) (s : CS) (f u off : Nat) : opFieldAddr (EE ax) s 34 1 (.pointer (some (mkA f u off))) = some (.pointer (some (mkA f u (off + 8))), s) := by kernel_rfl
theorem fa2 (ax : Axs) (s : CS) (f u off : Nat) : opFieldAddr (EE ax) s 34 2 (.pointer (some (mkA f u off))) = some (.pointer (some (mkA f u (off + 72))), s) := by kernel_rfl
theorem bld8 (ax : Axs) (s : CS) (fr : Fr) : opBuild (EE ax) s (evalC fr) 30 [(0, .const (.int .u32 1779033703)), (1, .const (.int .u32 3144134277)), (2, .const (.int .u32 1013904242)), (3, .const (.int .u32 2773480762)), (4, .const (.int .u32 1359893119)), (5, .const (.int .u32 2600822924)), (6, .const (.int .u32 528734635)), (7, .const (.int .u32 1541459225))] = some (.agg (wvs IVW).toArray, s) := by kernel_rfl
theorem bldS (ax : Axs) (s : CS) (ρ : Operand → Value) (x : Operand) (hx : ρ x = .agg (wvs IVW).toArray) : opBuild (EE ax) s ρ 34 [(0, x)] = some (strV IVW (List.replicate 64 0) 0, s) := by
  have h : opBuild (EE ax) s (fun _ => .agg (wvs IVW).toArray) 34 [(0, x)] = some (strV IVW (List.replicate 64 0) 0, s) := by kernel_rfl
  rw [← h]
  unfold opBuild
  simp only [partsOf, hx]
def RG (x : Nat) : Prop := x = 1
theorem begin_run (ax : Axs) (hp : Plain ax) (n : Nat) (g : Nat → Fam) (lim : Nat) (rd wr : List Nat) (hl : lim ≤ n) :
    Ret Tryd.prog (EE ax) 20 [] n g lim rd wr (fun _ => False) (strV IVW (List.replicate 64 0) 0) := by
  have hax : ax 20 = none := hp _ (by decide)
  have S1 := st_all (n := n + 1) (lim := lim) (rd := rd) (wr := wr) (tiS_at ax) (g := fupd g n ⟨false, [(n * 1024 + 0, cellsS (List.replicate 8 0) (List.replicate 64 0) 0)], none⟩) (f := n) (u := n * 1024 + 0) (vs := cellsS IVW (List.replicate 64 0) 0) (fupd_same _ _ _) (cellsS_len rfl rfl) (cellsS_len rfl rfl) (cellsS_one _ _ _)
  rw [fupd_fupd, ins_ge (f := n) _ (by omega)] at S1
  refine Ret.of (fn := Tryd.f20) 3 hax (fn20 ax) rfl Tryd.ntmps20 (by simp) ?_
  simp only [ofArgs_nil]
  repeat apply W.seq
  apply W.region
  · simp (disch := first | omega | (simp (disch := omega) [ev_tmp, ev_const, get_of, upd_same, upd_ne, Tryd.underlying3, Tryd.underlying83, Tryd.underlying5, Tryd.underlying29, Tryd.underlying32, Tryd.underlying9, Tryd.underlying22]; done) | (apply inK_i64; omega) | (apply inK_u64; omega)) only [op_len, cond_true, cond_false, pick_on, stepC_if, goC_true, goC_false, guard_tt, guard_tf, guard_ft, guard_ff, slot_zero, slot_succ, put_some, runC_cons, runC_nil, stepC_free, dstC_dst, dstC_none, thenC_some, cop_assign, cop_move, cop_conv, cop_bin, cop_un, cop_pick, cop_index, cop_indexAddr, cop_load, cop_store, cop_alloc, cop_box, cop_build, cop_slice, cop_s2a, cop_field, cop_fieldAddr, cop_extract, cop_nilCheck, cop_call, cop_builtin, cop_buildSlice, ev_tmp, ev_const, ev_global, ev_func, put_of, get_of, upd_same, upd_ne, List.toList_toArray, List.map_cons, List.map_nil, some_map, none_map, ti3, ti83, ti5, ti29, ti32, alloc_st (tiS_at ax)]
    with_reducible rfl
  simp only [onN, onB]
  repeat apply W.seq
  apply W.region
  · simp (disch := first | omega | (simp (disch := omega) [ev_tmp, ev_const, get_of, upd_same, upd_ne, Tryd.underlying3, Tryd.underlying83, Tryd.underlying5, Tryd.underlying29, Tryd.underlying32, Tryd.underlying9, Tryd.underlying22]; done) | (apply inK_i64; omega) | (apply inK_u64; omega) | rfl) only [op_len, cond_true, cond_false, pick_on, stepC_if, goC_true, goC_false, guard_tt, guard_tf, guard_ft, guard_ff, slot_zero, slot_succ, put_some, runC_cons, runC_nil, stepC_free, dstC_dst, dstC_none, thenC_some, cop_assign, cop_move, cop_conv, cop_bin, cop_un, cop_pick, cop_index, cop_indexAddr, cop_load, cop_store, cop_alloc, cop_box, cop_build, cop_slice, cop_s2a, cop_field, cop_fieldAddr, cop_extract, cop_nilCheck, cop_call, cop_builtin, cop_buildSlice, ev_tmp, ev_const, ev_global, ev_func, put_of, get_of, upd_same, upd_ne, List.toList_toArray, List.map_cons, List.map_nil, some_map, none_map, ti3, ti83, ti5, ti29, ti32, bld8 ax, bldS ax, strV, cells_agg, S1]
    with_reducible rfl
  simp only [onN, onB]
  apply W.ret
  refine ⟨.inr rfl, n + 1, fupd g n ⟨false, [(n * 1024 + 0, cellsS IVW (List.replicate 64 0) 0)], none⟩, rd, ?_, by omega, fun i hi => fupd_ne _ _ _ _ (by omega), fun x hx => .inl hx⟩
  have L2 := ld_all (n := n + 1) (lim := lim) (rd := rd) (wr := wr) (tiS_at ax) tiS_agg (g := fupd g n ⟨false, [(n * 1024 + 0, cellsS IVW (List.replicate 64 0) 0)], none⟩) (f := n) (u := n * 1024 + 0) (cs := cellsS IVW (List.replicate 64 0) 0) (by rw [fupd_same]; exact rowOf_one) (cellsS_len rfl rfl)
  rw [ins_ge (f := n) _ (by omega)] at L2
  simp (disch := first | omega | (simp (disch := omega) only [get_of, upd_same, upd_ne]; done)) only [resC_cell (ad := mkA n (n * 1024 + 0) 0), resC_nil, Tryd.results20, L2, resThen_some, resAdd_some]
  rfl
theorem str_len (b : ByteArray) : b.data.toList.length = b.size := by simp
theorem ext_drop (b : ByteArray) (k : Nat) : (b.extract k b.size).data.toList = b.data.toList.drop k := by
  simp only [ByteArray.data_extract, Array.toList_extract, List.extract_eq_take_drop]
  exact List.take_of_length_le (by simp)
theorem ext_size (b : ByteArray) (k : Nat) (h : k ≤ b.size) : (b.extract k b.size).size = b.size - k := by
  rw [← str_len, ext_drop, List.length_drop, str_len]
set_option maxHeartbeats 4000000 in
theorem add_run (ax : Axs) (hp : Plain ax) (hC : ax 53 = some hComp) (M : List UInt8) (st : List UInt32) (blk : List UInt8) (hR : Repr M st blk) (text : ByteArray) (hM : M.length + text.size < 1000000000000) (n : Nat) (g : Nat → Fam) (lim : Nat) (rd wr : List Nat) (hl : lim ≤ n) (hG : 1 < n) (hk : rowOf (g 1).rows (1 * 1024) = some (wvs KW)) :
    ∃ st' blk', Repr (M ++ text.data.toList) st' blk' ∧ Ret Tryd.prog (EE ax) 21 [strV st blk M.length, .string text] n g lim rd wr RG (strV st' blk' (M ++ text.data.toList).length) := by
  have hax : ax 21 = none := hp _ (by decide)
  suffices hh : ∃ v s2, callR Tryd.prog (EE ax) 21 [strV st blk M.length, .string text] (St n g lim rd wr) = some (v, s2) ∧ ∃ st' blk', Repr (M ++ text.data.toList) st' blk' ∧ v = strV st' blk' (M ++ text.data.toList).length ∧ ∃ n' g' rd', s2 = St n' g' lim rd' wr ∧ n ≤ n' ∧ (∀ i, i < n → g' i = g i) ∧ (∀ x, x ∈ rd' → x ∈ rd ∨ (RG x ∧ x < lim)) by
    obtain ⟨v, s2, h1, st', blk', h2, rfl, n', g', rd', rfl, h3⟩ := hh
    exact ⟨st', blk', h2, n', g', rd', h1, h3⟩
  refine callR_ex (fn := Tryd.f21) 38 hax (fn21 ax) rfl Tryd.ntmps21 (by simp) ?_
  simp (disch := omega) only [ofArgs_cons, ofArgs_nil, Nat.reduceAdd]
  repeat apply W.seq
  apply W.region
  · simp (disch := first | omega | (simp (disch := omega) [ev_tmp, ev_const, get_of, upd_same, upd_ne, Tryd.underlying3, Tryd.underlying83, Tryd.underlying5, Tryd.underlying29, Tryd.underlying32, Tryd.underlying9, Tryd.underlying22]; done) | (apply inK_i64; omega) | (apply inK_u64; omega)) only [op_len, cond_true, cond_false, pick_on, stepC_if, goC_true, goC_false, guard_tt, guard_tf, guard_ft, guard_ff, slot_zero, slot_succ, put_some, runC_cons, runC_nil, stepC_free, dstC_dst, dstC_none, thenC_some, cop_assign, cop_move, cop_conv, cop_bin, cop_un, cop_pick, cop_index, cop_indexAddr, cop_load, cop_store, cop_alloc, cop_box, cop_build, cop_slice, cop_s2a, cop_field, cop_fieldAddr, cop_extract, cop_nilCheck, cop_call, cop_builtin, cop_buildSlice, ev_tmp, ev_const, ev_global, ev_func, put_of, get_of, upd_same, upd_ne, List.toList_toArray, List.map_cons, List.map_nil, some_map, none_map, ti3, ti83, ti5, ti29, ti32, alloc_st (tiS_at ax), box_st, strV, cells_agg]
    with_reducible rfl
  simp only [onN, onB]
  repeat apply W.seq
  apply W.block
  refine W.loop (fun m fr s => ∃ (done : List UInt8) (rest : ByteArray) (st1 : List UInt32) (blk1 : List UInt8) (h : Nat → Value) (n' : Nat) (g' : Nat → Fam) (rd' : List Nat), text.data.toList = done ++ rest.data.toList ∧ m = rest.size ∧ Repr (M ++ done) st1 blk1 ∧ fr = Fr.of 38 h ∧ s = St n' g' lim rd' wr ∧ n + 2 ≤ n' ∧ h 1 = .string rest ∧ h 2 = .pointer (some (mkA n (n * 1024 + 0) 0)) ∧ h 4 = .pointer (some (mkA (n + 1) ((n + 1) * 1024 + 0) 0)) ∧ g' n = ⟨false, [(n * 1024 + 0, cellsS st1 blk1 (M ++ done).length)], none⟩ ∧ g' (n + 1) = ⟨false, [((n + 1) * 1024 + 0, cellsS (List.replicate 8 0) (List.replicate 64 0) 0)], none⟩ ∧ (∀ i, i < n → g' i = g i) ∧ (∀ x, x ∈ rd' → x ∈ rd ∨ (RG x ∧ x < lim))) ?_ text.size _ _ ⟨[], text, st, blk, _, n + 1 + 1, _, rd, rfl, rfl, by rw [List.append_nil]; exact hR, rfl, rfl, by omega, ?_, ?_, ?_, ?_, ?_, ?_, fun x hx => .inl hx⟩
  case refine_2 => simp (disch := omega) only [upd_same, upd_ne]
  case refine_3 => simp (disch := omega) only [upd_same, upd_ne]
  case refine_4 => simp (disch := omega) only [upd_same, upd_ne]
  case refine_5 => rw [fupd_ne _ _ _ _ (by omega), fupd_same, List.append_nil]
  case refine_6 => rw [fupd_same]
  case refine_7 => intro i hi; rw [fupd_ne _ _ _ _ (by omega), fupd_ne _ _ _ _ (by omega)]
  rintro m fr s ⟨done, rest, st1, blk1, h, n', g', rd', htx, rfl, hR1, rfl, rfl, hn, h1, h2, h4, p1, p2, p0, hrd⟩
  have hsz : text.size = done.length + rest.size := by
    have := congrArg List.length htx
    rw [List.length_append, str_len, str_len] at this
    exact this
  have hC1 : (M ++ done).length = M.length + done.length := List.length_append
  have l8 := hR1.len
  have l64 := hR1.size
  by_cases he : rest = ⟨#[]⟩
  · subst he
    have x1 : decide ((ByteArray.mk #[]) = ByteArray.mk #[]) = true := decide_eq_true rfl
    repeat apply W.seq
    apply W.region
    · simp (disch := first | omega | (simp (disch := omega) [ev_tmp, ev_const, get_of, upd_same, upd_ne, h1, Tryd.underlying3, Tryd.underlying83, Tryd.underlying5, Tryd.underlying29, Tryd.underlying32, Tryd.underlying9, Tryd.underlying22]; done) | (apply inK_i64; omega) | (apply inK_u64; omega)) only [op_len, cond_true, cond_false, pick_on, stepC_if, goC_true, goC_false, guard_tt, guard_tf, guard_ft, guard_ff, slot_zero, slot_succ, put_some, runC_cons, runC_nil, stepC_free, dstC_dst, dstC_none, thenC_some, cop_assign, cop_move, cop_conv, cop_bin, cop_un, cop_pick, cop_index, cop_indexAddr, cop_load, cop_store, cop_alloc, cop_box, cop_build, cop_slice, cop_s2a, cop_field, cop_fieldAddr, cop_extract, cop_nilCheck, cop_call, cop_builtin, cop_buildSlice, ev_tmp, ev_const, ev_global, ev_func, put_of, get_of, upd_same, upd_ne, List.toList_toArray, List.map_cons, List.map_nil, some_map, none_map, ti3, ti83, ti5, ti29, ti32, h1, os_neq, x1, Bool.not_true]
      with_reducible rfl
    simp only [onN, onB]
    repeat apply W.seq
    refine W.cond (b := false) ?_ ?_
    · simp (disch := omega) only [ev_tmp, get_of, upd_same, upd_ne, Bool.not_true, decide_true, decide_false]
    simp only [cond_true, cond_false]
    apply W.exit
    simp only [onN, onB, Nat.beq_refl, cond_true, cond_false, bexit]
    have L1 := ld_all (n := n') (lim := lim) (rd := rd') (wr := wr) (tiS_at ax) tiS_agg (g := g') (f := n) (u := n * 1024 + 0) (cs := cellsS st1 blk1 (M ++ done).length) (by rw [p1]; exact rowOf_one) (cellsS_len l8 l64)
    rw [ins_ge (f := n) _ (by omega)] at L1
    have S1 := st_all (n := n') (lim := lim) (rd := rd') (wr := wr) (tiS_at ax) (f := n + 1) (u := (n + 1) * 1024 + 0) (vs := cellsS st1 blk1 (M ++ done).length) p2 (cellsS_len l8 l64) (cellsS_len rfl rfl) (cellsS_one _ _ _)
    rw [ins_ge (f := n + 1) _ (by omega)] at S1
    repeat apply W.seq
    apply W.region
    · simp (disch := first | omega | (simp (disch := omega) [ev_tmp, ev_const, get_of, upd_same, upd_ne, h2, h4, Tryd.underlying3, Tryd.underlying83, Tryd.underlying5, Tryd.underlying29, Tryd.underlying32, Tryd.underlying9, Tryd.underlying22]; done) | (apply inK_i64; omega) | (apply inK_u64; omega)) only [op_len, cond_true, cond_false, pick_on, stepC_if, goC_true, goC_false, guard_tt, guard_tf, guard_ft, guard_ff, slot_zero, slot_succ, put_some, runC_cons, runC_nil, stepC_free, dstC_dst, dstC_none, thenC_some, cop_assign, cop_move, cop_conv, cop_bin, cop_un, cop_pick, cop_index, cop_indexAddr, cop_load, cop_store, cop_alloc, cop_box, cop_build, cop_slice, cop_s2a, cop_field, cop_fieldAddr, cop_extract, cop_nilCheck, cop_call, cop_builtin, cop_buildSlice, ev_tmp, ev_const, ev_global, ev_func, put_of, get_of, upd_same, upd_ne, List.toList_toArray, List.map_cons, List.map_nil, some_map, none_map, ti3, ti83, ti5, ti29, ti32, h2, h4, L1, cells_agg, S1]
      with_reducible rfl
    simp only [onN, onB]
    apply W.ret
    have hd : M ++ text.data.toList = M ++ done := by rw [htx]; simp
    refine ⟨.inr rfl, [strV st1 blk1 (M ++ done).length], St n' (fupd g' (n + 1) ⟨false, [((n + 1) * 1024 + 0, cellsS st1 blk1 (M ++ done).length)], none⟩) lim rd' wr, ?_, st1, blk1, by rw [hd]; exact hR1, by rw [hd]; rfl, n', _, rd', rfl, by omega, fun i hi => by rw [fupd_ne _ _ _ _ (by omega)]; exact p0 i hi, hrd⟩
    have L2 := ld_all (n := n') (lim := lim) (rd := rd') (wr := wr) (tiS_at ax) tiS_agg (g := fupd g' (n + 1) ⟨false, [((n + 1) * 1024 + 0, cellsS st1 blk1 (M ++ done).length)], none⟩) (f := n + 1) (u := (n + 1) * 1024 + 0) (cs := cellsS st1 blk1 (M ++ done).length) (by rw [fupd_same]; exact rowOf_one) (cellsS_len l8 l64)
    rw [ins_ge (f := n + 1) _ (by omega)] at L2
    simp (disch := first | omega | (simp (disch := omega) only [get_of, upd_same, upd_ne, h4]; done)) only [resC_cell (ad := mkA (n + 1) ((n + 1) * 1024 + 0) 0), resC_nil, Tryd.results21, L2, resThen_some, resAdd_some]
    rfl
  have x1 : decide (rest = ByteArray.mk #[]) = false := decide_eq_false he
  have hr0 : rest.size ≠ 0 := by
    intro h0
    apply he
    apply ByteArray.ext
    apply Array.toList_inj.1
    have hz : rest.data.toList = [] := List.eq_nil_of_length_eq_zero (by rw [str_len]; exact h0)
    rw [hz]
  repeat apply W.seq
  apply W.region
  · simp (disch := first | omega | (simp (disch := omega) [ev_tmp, ev_const, get_of, upd_same, upd_ne, h1, Tryd.underlying3, Tryd.underlying83, Tryd.underlying5, Tryd.underlying29, Tryd.underlying32, Tryd.underlying9, Tryd.underlying22]; done) | (apply inK_i64; omega) | (apply inK_u64; omega)) only [op_len, cond_true, cond_false, pick_on, stepC_if, goC_true, goC_false, guard_tt, guard_tf, guard_ft, guard_ff, slot_zero, slot_succ, put_some, runC_cons, runC_nil, stepC_free, dstC_dst, dstC_none, thenC_some, cop_assign, cop_move, cop_conv, cop_bin, cop_un, cop_pick, cop_index, cop_indexAddr, cop_load, cop_store, cop_alloc, cop_box, cop_build, cop_slice, cop_s2a, cop_field, cop_fieldAddr, cop_extract, cop_nilCheck, cop_call, cop_builtin, cop_buildSlice, ev_tmp, ev_const, ev_global, ev_func, put_of, get_of, upd_same, upd_ne, List.toList_toArray, List.map_cons, List.map_nil, some_map, none_map, ti3, ti83, ti5, ti29, ti32, h1, os_neq, x1, Bool.not_false]
    with_reducible rfl
  simp only [onN, onB]
  repeat apply W.seq
  refine W.cond (b := true) ?_ ?_
  · simp (disch := omega) only [ev_tmp, get_of, upd_same, upd_ne, Bool.not_false, decide_true, decide_false]
  simp only [cond_true, cond_false]
  apply W.skip
  simp only [onN, onB]
  generalize hN : M ++ done = N at *
  generalize hat : N.length % 64 = at' at *
  have hat64 : at' < 64 := by omega
  have IG := fun l => ins_ge (m := lim) (f := n) l (by omega)
  have L1 := ld_one (n := n') (lim := lim) (rd := rd') (wr := wr) (ti32 ax) rfl (g := g') (f := n) (u := n * 1024 + 0) (off := 0 + 72) (cs := cellsS st1 blk1 N.length) (by rw [p1]; exact rowOf_one) (cellsS_cnt l8 l64)
  have cm : (N.length : Int) % 64 = ((at' : Nat) : Int) := by omega
  have cw : IntKind.i64.wrap ((at' : Nat) : Int) = ((at' : Nat) : Int) := inK_i64 (by omega)
  repeat apply W.seq
  apply W.block
  repeat apply W.seq
  apply W.region
  · simp (disch := first | omega | (simp (disch := omega) [ev_tmp, ev_const, get_of, upd_same, upd_ne, h2, Tryd.underlying3, Tryd.underlying83, Tryd.underlying5, Tryd.underlying29, Tryd.underlying32, Tryd.underlying9, Tryd.underlying22]; done) | (apply inK_i64; omega) | (apply inK_u64; omega)) only [op_len, cond_true, cond_false, pick_on, stepC_if, goC_true, goC_false, guard_tt, guard_tf, guard_ft, guard_ff, slot_zero, slot_succ, put_some, runC_cons, runC_nil, stepC_free, dstC_dst, dstC_none, thenC_some, cop_assign, cop_move, cop_conv, cop_bin, cop_un, cop_pick, cop_index, cop_indexAddr, cop_load, cop_store, cop_alloc, cop_box, cop_build, cop_slice, cop_s2a, cop_field, cop_fieldAddr, cop_extract, cop_nilCheck, cop_call, cop_builtin, cop_buildSlice, ev_tmp, ev_const, ev_global, ev_func, put_of, get_of, upd_same, upd_ne, List.toList_toArray, List.map_cons, List.map_nil, some_map, none_map, ti3, ti83, ti5, ti29, ti32, h2, fa2 ax, L1, IG, oi_rem, cm, opConvert, ti3, ti32, oc_int, cw]
    with_reducible rfl
  simp only [onN, onB]
  generalize hkk : min rest.size (64 - at') = k at *
  have hk0 : k ≠ 0 := by omega
  have bd1 := bounds_l (len := 64) (cap := 64) (natOf_nat .i64 at') (by omega) (by omega)
  have CP := copy_str (lim := lim) (rd := rd') (wr := wr) (n := n') (el_u8 ax) rfl (f := n) (u := n * 1024 + 0) (off := 0 + 8 + at') (len := 64 - at') (cap := 64 - at') (b := rest) p1 (by rw [hkk]; exact hk0) (by rw [hkk, cellsS_len l8 l64]; omega)
  have hpl : (rest.data.toList.take k).length = k := by rw [List.length_take, str_len]; omega
  rw [hkk, IG, show 0 + 8 + at' = 8 + at' by omega, cellsS_lay l8 l64 (by rw [hpl]; omega)] at CP
  repeat apply W.seq
  apply W.region
  · simp (disch := first | omega | (simp (disch := omega) [ev_tmp, ev_const, get_of, upd_same, upd_ne, h1, h2, Tryd.underlying3, Tryd.underlying83, Tryd.underlying5, Tryd.underlying29, Tryd.underlying32, Tryd.underlying9, Tryd.underlying22]; done) | (apply inK_i64; omega) | (apply inK_u64; omega)) only [op_len, cond_true, cond_false, pick_on, stepC_if, goC_true, goC_false, guard_tt, guard_tf, guard_ft, guard_ff, slot_zero, slot_succ, put_some, runC_cons, runC_nil, stepC_free, dstC_dst, dstC_none, thenC_some, cop_assign, cop_move, cop_conv, cop_bin, cop_un, cop_pick, cop_index, cop_indexAddr, cop_load, cop_store, cop_alloc, cop_box, cop_build, cop_slice, cop_s2a, cop_field, cop_fieldAddr, cop_extract, cop_nilCheck, cop_call, cop_builtin, cop_buildSlice, ev_tmp, ev_const, ev_global, ev_func, put_of, get_of, upd_same, upd_ne, List.toList_toArray, List.map_cons, List.map_nil, some_map, none_map, ti3, ti83, ti5, ti29, ti32, h1, h2, fa1 ax, slice_arr1 (ti31 ax) (ti5 ax) (by omega) bd1 (show (n * 1024 + 0) % 1024 = 0 by omega), Nat.mul_one, show 0 + 8 + at' = 8 + at' by omega, op_copy, CP]
    with_reducible rfl
  simp only [onN, onB]
  generalize hpp : rest.data.toList.take k = p at *
  have bd2 := bounds_l (len := rest.size) (cap := rest.size) (natOf_nat .i64 k) (by omega) (Nat.le_refl _)
  repeat apply W.seq
  apply W.region
  · simp (disch := first | omega | (simp (disch := omega) [ev_tmp, ev_const, get_of, upd_same, upd_ne, h1, Tryd.underlying3, Tryd.underlying83, Tryd.underlying5, Tryd.underlying29, Tryd.underlying32, Tryd.underlying9, Tryd.underlying22]; done) | (apply inK_i64; omega) | (apply inK_u64; omega)) only [op_len, cond_true, cond_false, pick_on, stepC_if, goC_true, goC_false, guard_tt, guard_tf, guard_ft, guard_ff, slot_zero, slot_succ, put_some, runC_cons, runC_nil, stepC_free, dstC_dst, dstC_none, thenC_some, cop_assign, cop_move, cop_conv, cop_bin, cop_un, cop_pick, cop_index, cop_indexAddr, cop_load, cop_store, cop_alloc, cop_box, cop_build, cop_slice, cop_s2a, cop_field, cop_fieldAddr, cop_extract, cop_nilCheck, cop_call, cop_builtin, cop_buildSlice, ev_tmp, ev_const, ev_global, ev_func, put_of, get_of, upd_same, upd_ne, List.toList_toArray, List.map_cons, List.map_nil, some_map, none_map, ti3, ti83, ti5, ti29, ti32, h1, slice_str (ti9 ax) bd2]
    with_reducible rfl
  simp only [onN, onB]
  have lb1 : (lay blk1 at' p).length = 64 := by rw [lay_len (by omega)]; exact l64
  generalize hg2 : fupd g' n ⟨false, [(n * 1024 + 0, cellsS st1 (lay blk1 at' p) N.length)], none⟩ = g2
  have r1 : g2 n = ⟨false, [(n * 1024 + 0, cellsS st1 (lay blk1 at' p) N.length)], none⟩ := by rw [← hg2, fupd_same]
  have r2 : g2 (n + 1) = ⟨false, [((n + 1) * 1024 + 0, cellsS (List.replicate 8 0) (List.replicate 64 0) 0)], none⟩ := by rw [← hg2, fupd_ne _ _ _ _ (by omega)]; exact p2
  have r0 : ∀ i, i < n → g2 i = g i := fun i hi => by rw [← hg2, fupd_ne _ _ _ _ (by omega)]; exact p0 i hi
  clear hg2 CP p1 p2 p0 L1
  have L2 := ld_one (n := n') (lim := lim) (rd := rd') (wr := wr) (ti32 ax) rfl (g := g2) (f := n) (u := n * 1024 + 0) (off := 0 + 72) (cs := cellsS st1 (lay blk1 at' p) N.length) (by rw [r1]; exact rowOf_one) (cellsS_cnt l8 lb1)
  have S2 := st_one (n := n') (lim := lim) (rd := rd') (wr := wr) (ti32 ax) (f := n) (u := n * 1024 + 0) (off := 0 + 72) (v := .int .u64 (((N.length + k : Nat) : Nat) : Int)) r1 (by rw [cellsS_len l8 lb1]; omega) rfl
  rw [IG, show 0 + 72 = 72 by omega, cellsS_setc l8 lb1] at S2
  have cu : IntKind.u64.wrap ((k : Nat) : Int) = ((k : Nat) : Int) := inK_u64 (by omega)
  have ca : (N.length : Int) + ((k : Nat) : Int) = ((N.length + k : Nat) : Int) := by omega
  repeat apply W.seq
  apply W.region
  · simp (disch := first | omega | (simp (disch := omega) [ev_tmp, ev_const, get_of, upd_same, upd_ne, h2, Tryd.underlying3, Tryd.underlying83, Tryd.underlying5, Tryd.underlying29, Tryd.underlying32, Tryd.underlying9, Tryd.underlying22]; done) | (apply inK_i64; omega) | (apply inK_u64; omega) | (rw [ca]; apply inK_u64; omega)) only [op_len, cond_true, cond_false, pick_on, stepC_if, goC_true, goC_false, guard_tt, guard_tf, guard_ft, guard_ff, slot_zero, slot_succ, put_some, runC_cons, runC_nil, stepC_free, dstC_dst, dstC_none, thenC_some, cop_assign, cop_move, cop_conv, cop_bin, cop_un, cop_pick, cop_index, cop_indexAddr, cop_load, cop_store, cop_alloc, cop_box, cop_build, cop_slice, cop_s2a, cop_field, cop_fieldAddr, cop_extract, cop_nilCheck, cop_call, cop_builtin, cop_buildSlice, ev_tmp, ev_const, ev_global, ev_func, put_of, get_of, upd_same, upd_ne, List.toList_toArray, List.map_cons, List.map_nil, some_map, none_map, ti3, ti83, ti5, ti29, ti32, h2, fa2 ax, L2, IG, opConvert, ti3, ti32, oc_int, cu, oi_add, ca, cells_int, S2, show 0 + 72 = 72 by omega]
    with_reducible rfl
  simp only [onN, onB]
  generalize hg3 : fupd g2 n ⟨false, [(n * 1024 + 0, cellsS st1 (lay blk1 at' p) (N.length + k))], none⟩ = g3
  have q1 : g3 n = ⟨false, [(n * 1024 + 0, cellsS st1 (lay blk1 at' p) (N.length + k))], none⟩ := by rw [← hg3, fupd_same]
  have q2 : g3 (n + 1) = ⟨false, [((n + 1) * 1024 + 0, cellsS (List.replicate 8 0) (List.replicate 64 0) 0)], none⟩ := by rw [← hg3, fupd_ne _ _ _ _ (by omega)]; exact r2
  have q0 : ∀ i, i < n → g3 i = g i := fun i hi => by rw [← hg3, fupd_ne _ _ _ _ (by omega)]; exact r0 i hi
  clear hg3 r1 r2 r0 L2 S2
  have cb : ((at' : Nat) : Int) + ((k : Nat) : Int) = ((at' + k : Nat) : Int) := by omega
  have hNp : M ++ (done ++ p) = N ++ p := by rw [← hN, List.append_assoc]
  have hNl : (N ++ p).length = N.length + k := by rw [List.length_append, hpl]
  have hrs : (rest.extract k rest.size).size = rest.size - k := ext_size rest k (by omega)
  have htx' : text.data.toList = (done ++ p) ++ (rest.extract k rest.size).data.toList := by
    rw [ext_drop, htx, ← hpp, List.append_assoc, List.take_append_drop]
  repeat apply W.seq
  apply W.region
  · simp (disch := first | omega | (simp (disch := omega) [ev_tmp, ev_const, get_of, upd_same, upd_ne, Tryd.underlying3, Tryd.underlying83, Tryd.underlying5, Tryd.underlying29, Tryd.underlying32, Tryd.underlying9, Tryd.underlying22]; done) | (apply inK_i64; omega) | (apply inK_u64; omega) | (rw [cb]; apply inK_i64; omega)) only [op_len, cond_true, cond_false, pick_on, stepC_if, goC_true, goC_false, guard_tt, guard_tf, guard_ft, guard_ff, slot_zero, slot_succ, put_some, runC_cons, runC_nil, stepC_free, dstC_dst, dstC_none, thenC_some, cop_assign, cop_move, cop_conv, cop_bin, cop_un, cop_pick, cop_index, cop_indexAddr, cop_load, cop_store, cop_alloc, cop_box, cop_build, cop_slice, cop_s2a, cop_field, cop_fieldAddr, cop_extract, cop_nilCheck, cop_call, cop_builtin, cop_buildSlice, ev_tmp, ev_const, ev_global, ev_func, put_of, get_of, upd_same, upd_ne, List.toList_toArray, List.map_cons, List.map_nil, some_map, none_map, ti3, ti83, ti5, ti29, ti32, oi_add, cb, oi_eql]
    with_reducible rfl
  simp only [onN, onB]
  by_cases hfull : at' + k = 64
  case neg =>
    have x2 : decide (((at' + k : Nat) : Int) = 64) = false := decide_eq_false (by omega)
    repeat apply W.seq
    refine W.cond (b := false) ?_ ?_
    · simp (disch := omega) only [ev_tmp, get_of, upd_same, upd_ne, x2, decide_true, decide_false]
    simp only [cond_true, cond_false]
    apply W.skip
    simp only [onN, onB]
    refine ⟨rest.size - k, by omega, done ++ p, rest.extract k rest.size, st1, lay blk1 at' p, _, n', g3, rd', htx', hrs.symm, ?_, rfl, rfl, hn, ?_, ?_, ?_, ?_, q2, q0, hrd⟩
    · rw [hNp]
      have := Repr.more hR1 (p := p) (by omega)
      rw [hat] at this
      exact this
    · simp (disch := omega) only [upd_same, upd_ne]
    · simp (disch := omega) only [upd_same, upd_ne, h2]
    · simp (disch := omega) only [upd_same, upd_ne, h4]
    · rw [hNp, hNl]; exact q1
  have x2 : decide (((at' + k : Nat) : Int) = 64) = true := decide_eq_true (by omega)
  repeat apply W.seq
  refine W.cond (b := true) ?_ ?_
  · simp (disch := omega) only [ev_tmp, get_of, upd_same, upd_ne, x2, decide_true, decide_false]
  simp only [cond_true, cond_false]
  have hgk : rowOf (g3 1).rows (1 * 1024) = some (wvs KW) := by rw [q0 _ hG]; exact hk
  have bd3 := bounds_all (len := 64) (cap := 64) (Nat.le_refl _)
  have D1 := ld_partq (n := n') (ti30 ax) rfl (g := g3) (f := n) (u := n * 1024 + 0) (off := 0 + 0) (cs := cellsS st1 (lay blk1 at' p) (N.length + k)) (by rw [q1]; exact rowOf_one) (by rw [cellsS_len l8 lb1]; omega) (by omega)
  rw [show 0 + 0 = 0 by omega, cellsS_st l8 lb1] at D1
  have CR := callR_ax (P := Tryd.prog) (Γ := EE ax) (s := St n' g3 n' [] []) (show (EE ax).ax 53 = some hComp from hC) (hComp_eq KW st1 (lay blk1 at' p) n (n * 1024 + 0) 8 64 64 (St n' g3 n' [] []) (cellsS st1 (lay blk1 at' p) (N.length + k)) (by show rowOf (g3 n).rows _ = _; rw [q1]; exact rowOf_one) (cellsS_blk l8 lb1) hgk l8 KW_len lb1 rfl (Nat.le_refl _) (by omega) (show n < n' by omega) (show 1 < n' by omega) (.inl (by omega)))
  have hq : ∀ x, x ∈ ins n' (ins n' [] n) 1 → x < n' := by
    intro x hx
    rcases mem_ins hx with hx | hx
    · rcases mem_ins hx with hx | hx
      · simp at hx
      · exact hx.2
    · exact hx.2
  have lc : (comp KW st1 (lay blk1 at' p)).length = 8 := by rw [comp_len]; exact l8
  have SP := st_part (n := n' + 7) (lim := n' + 7) (rd := []) (wr := []) (ti30 ax) (f := n) (u := n * 1024 + 0) (off := 0) (vs := wvs (comp KW st1 (lay blk1 at' p))) q1 (by rw [wvs_len]; exact lc) (by rw [cellsS_len l8 lb1]; omega) (wvs_one _)
  rw [cellsS_state l8 lb1 lc, ins_lt (show n < n' + 7 by omega)] at SP
  repeat apply W.seq
  apply W.last
  · kernel_rfl
  · simp (disch := first | omega | (simp (disch := omega) [ev_tmp, ev_const, get_of, upd_same, upd_ne, h2, Tryd.underlying3, Tryd.underlying83, Tryd.underlying5, Tryd.underlying29, Tryd.underlying32, Tryd.underlying9, Tryd.underlying22]; done) | (apply inK_i64; omega) | (apply inK_u64; omega)) only [op_len, cond_true, cond_false, pick_on, stepC_if, goC_true, goC_false, guard_tt, guard_tf, guard_ft, guard_ff, slot_zero, slot_succ, put_some, runC_cons, runC_nil, stepC_free, dstC_dst, dstC_none, thenC_some, cop_assign, cop_move, cop_conv, cop_bin, cop_un, cop_pick, cop_index, cop_indexAddr, cop_load, cop_store, cop_alloc, cop_box, cop_build, cop_slice, cop_s2a, cop_field, cop_fieldAddr, cop_extract, cop_nilCheck, cop_call, cop_builtin, cop_buildSlice, ev_tmp, ev_const, ev_global, ev_func, put_of, get_of, upd_same, upd_ne, List.toList_toArray, List.map_cons, List.map_nil, some_map, none_map, ti3, ti83, ti5, ti29, ti32, quietL_cons, quietL_one, inner_st, thenL_same, thenL_rd, lastL_some, insAll_nil, insAll_cons, h2, fa0 ax, fa1 ax, show 0 + 0 = 0 by omega, D1, slice_arr1 (ti31 ax) (ti5 ax) (by omega) bd3 (show (n * 1024 + 0) % 1024 = 0 by omega), show 0 + 8 + 0 * 1 = 8 by omega, show 64 - 0 = 64 by omega, CR, thenL_gen hq, cells_agg, SP, IG]
    with_reducible rfl
  simp only [onN, onB]
  refine ⟨rest.size - k, by omega, done ++ p, rest.extract k rest.size, comp KW st1 (lay blk1 at' p), lay blk1 at' p, _, n' + 7, _, _, htx', hrs.symm, ?_, rfl, rfl, by omega, ?_, ?_, ?_, ?_, ?_, ?_, ?_⟩
  · rw [hNp]
    have := Repr.full hR1 (p := p) (by omega)
    rw [hat] at this
    exact this
  · simp (disch := omega) only [upd_same, upd_ne]
  · simp (disch := omega) only [upd_same, upd_ne, h2]
  · simp (disch := omega) only [upd_same, upd_ne, h4]
  · rw [hNp, hNl, fupd_same]
  · rw [fupd_ne _ _ _ _ (by omega)]; exact q2
  · intro i hi; rw [fupd_ne _ _ _ _ (by omega)]; exact q0 i hi
  · intro x hx
    rcases insAll_mem rfl x hx with hx | ⟨hx, hxl⟩
    · exact hrd x hx
    · rcases mem_ins hx with hx | hx
      · rcases mem_ins hx with hx | hx
        · simp at hx
        · omega
      · exact .inr ⟨hx.1, hxl⟩
end Go.Proofs.YtcmfoipnoejmlaaDoor
namespace Go.Proofs.YtcmfoipnoejmlaaDoor
open Go Go.RowKit
set_option linter.unusedSimpArgs false
set_option linter.unusedVariables false
set_option maxRecDepth 100000
theorem q_of (c : Nat) (h : 8 * c < 18446744073709551616) : Value.int .u64 (8 * (c : Int)) = vq (UInt64.ofNat (8 * c)) := by
  unfold vq
  have : (UInt64.ofNat (8 * c)).toNat = 8 * c := UInt64.toNat_ofNat_of_lt' h
  rw [this]
  first | rfl | (congr 1; omega)
theorem vb_lit (n : Nat) (h : n < 256) : Value.int .u8 ((n : Nat) : Int) = vb (UInt8.ofNat n) := by
  unfold vb
  have : (UInt8.ofNat n).toNat = n := UInt8.toNat_ofNat_of_lt' h
  rw [this]
theorem out_cells (st : List UInt32) (i : Nat) (h : i < 32) : (bvs (outs st i) ++ List.replicate (32 - i) (vb 0)).set i (vb (outB st i)) = bvs (outs st (i + 1)) ++ List.replicate (32 - (i + 1)) (vb 0) := by
  have e : 32 - i = (32 - (i + 1)) + 1 := by omega
  rw [e, List.replicate_succ, List.set_append_right _ _ (by rw [bvs_len, outs_len]; omega), bvs_len, outs_len, Nat.sub_self, List.set_cons_zero, outs, bvs_app, List.append_assoc]
  rfl
set_option maxHeartbeats 4000000 in
theorem ssum_run (ax : Axs) (hp : Plain ax) (hC : ax 53 = some hComp) (M : List UInt8) (st : List UInt32) (blk : List UInt8) (hR : Repr M st blk) (hM : M.length < 100000000000) (n : Nat) (g : Nat → Fam) (lim : Nat) (rd wr : List Nat) (hl : lim ≤ n) (hG : 1 < n) (hk : rowOf (g 1).rows (1 * 1024) = some (wvs KW)) :
    Ret Tryd.prog (EE ax) 23 [strV st blk M.length] n g lim rd wr RG (.agg (bvs (sha M)).toArray) := by
  have hax : ax 23 = none := hp _ (by decide)
  have l8 := hR.len
  have l64 := hR.size
  refine Ret.of (fn := Tryd.f23) 58 hax (fn23 ax) rfl Tryd.ntmps23 (by simp) ?_
  simp (disch := omega) only [ofArgs_cons, ofArgs_nil, Nat.reduceAdd]
  repeat apply W.seq
  apply W.region
  · simp (disch := first | omega | (simp (disch := omega) [ev_tmp, ev_const, get_of, upd_same, upd_ne, Tryd.underlying3, Tryd.underlying83, Tryd.underlying5, Tryd.underlying29, Tryd.underlying32, Tryd.underlying9, Tryd.underlying22]; done) | (apply inK_i64; omega) | (apply inK_u64; omega)) only [op_len, cond_true, cond_false, pick_on, stepC_if, goC_true, goC_false, guard_tt, guard_tf, guard_ft, guard_ff, slot_zero, slot_succ, put_some, runC_cons, runC_nil, stepC_free, dstC_dst, dstC_none, thenC_some, cop_assign, cop_move, cop_conv, cop_bin, cop_un, cop_pick, cop_index, cop_indexAddr, cop_load, cop_store, cop_alloc, cop_box, cop_build, cop_slice, cop_s2a, cop_field, cop_fieldAddr, cop_extract, cop_nilCheck, cop_call, cop_builtin, cop_buildSlice, ev_tmp, ev_const, ev_global, ev_func, put_of, get_of, upd_same, upd_ne, List.toList_toArray, List.map_cons, List.map_nil, some_map, none_map, ti3, ti83, ti5, ti29, ti32, alloc_st (ti24 ax), box_st, strV, cells_agg]
    with_reducible rfl
  simp only [onN, onB]
  have L1 := ld_one (n := n + 1 + 1) (lim := lim) (rd := rd) (wr := wr) (ti32 ax) rfl (g := fupd (fupd g n ⟨false, [(n * 1024 + 0, cellsS st blk M.length)], none⟩) (n + 1) ⟨false, [((n + 1) * 1024 + 0, List.replicate 32 (.int .u8 0))], none⟩) (f := n) (u := n * 1024 + 0) (off := 0 + 72) (cs := cellsS st blk M.length) (by rw [fupd_ne _ _ _ _ (by omega), fupd_same]; exact rowOf_one) (cellsS_cnt l8 l64)
  have IG := fun l => ins_ge (m := lim) (f := n) l (by omega)
  repeat apply W.seq
  apply W.region
  · simp (disch := first | omega | (simp (disch := omega) [ev_tmp, ev_const, get_of, upd_same, upd_ne, Tryd.underlying3, Tryd.underlying83, Tryd.underlying5, Tryd.underlying29, Tryd.underlying32, Tryd.underlying9, Tryd.underlying22]; done) | (apply inK_i64; omega) | (apply inK_u64; omega)) only [op_len, cond_true, cond_false, pick_on, stepC_if, goC_true, goC_false, guard_tt, guard_tf, guard_ft, guard_ff, slot_zero, slot_succ, put_some, runC_cons, runC_nil, stepC_free, dstC_dst, dstC_none, thenC_some, cop_assign, cop_move, cop_conv, cop_bin, cop_un, cop_pick, cop_index, cop_indexAddr, cop_load, cop_store, cop_alloc, cop_box, cop_build, cop_slice, cop_s2a, cop_field, cop_fieldAddr, cop_extract, cop_nilCheck, cop_call, cop_builtin, cop_buildSlice, ev_tmp, ev_const, ev_global, ev_func, put_of, get_of, upd_same, upd_ne, List.toList_toArray, List.map_cons, List.map_nil, some_map, none_map, ti3, ti83, ti5, ti29, ti32, fa2 ax, L1, IG, oi_mul, q_of M.length (by omega)]
    with_reducible rfl
  simp only [onN, onB]
  have c128 : Value.int .u8 128 = vb 128 := rfl
  have c0 : Value.int .u8 0 = vb 0 := rfl
  repeat apply W.seq
  apply W.region
  · simp (disch := first | omega | (simp (disch := omega) [ev_tmp, ev_const, get_of, upd_same, upd_ne, cells_int, c128, vb_cells, Tryd.underlying3, Tryd.underlying83, Tryd.underlying5, Tryd.underlying29, Tryd.underlying32, Tryd.underlying9, Tryd.underlying22]; done) | (apply inK_i64; omega) | (apply inK_u64; omega)) only [op_len, cond_true, cond_false, pick_on, stepC_if, goC_true, goC_false, guard_tt, guard_tf, guard_ft, guard_ff, slot_zero, slot_succ, put_some, runC_cons, runC_nil, stepC_free, dstC_dst, dstC_none, thenC_some, cop_assign, cop_move, cop_conv, cop_bin, cop_un, cop_pick, cop_index, cop_indexAddr, cop_load, cop_store, cop_alloc, cop_box, cop_build, cop_slice, cop_s2a, cop_field, cop_fieldAddr, cop_extract, cop_nilCheck, cop_call, cop_builtin, cop_buildSlice, ev_tmp, ev_const, ev_global, ev_func, put_of, get_of, upd_same, upd_ne, List.toList_toArray, List.map_cons, List.map_nil, some_map, none_map, ti3, ti83, ti5, ti29, ti32, build_one (ti22 ax) (ti5 ax) rfl rfl, c128]
    with_reducible rfl
  simp only [onN, onB]
  repeat apply W.seq
  apply W.block
  refine W.loop (fun m fr s => ∃ (z : Nat) (ao : Option Addr) (h : Nat → Value) (n' : Nat) (g' : Nat → Fam), z ≤ zerosN M.length ∧ m = zerosN M.length - z ∧ fr = Fr.of 58 h ∧ s = St n' g' lim rd wr ∧ n + 2 ≤ n' ∧ h 1 = .pointer (some (mkA n (n * 1024 + 0) 0)) ∧ h 2 = .pointer (some (mkA (n + 1) ((n + 1) * 1024 + 0) 0)) ∧ h 3 = vq (UInt64.ofNat (8 * M.length)) ∧ h 4 = .slice ao (1 + z) (1 + z) ∧ OwnX (n + 2) g' n' 1 ao (1 + z) (bvs (128 :: List.replicate z 0)) ∧ g' n = ⟨false, [(n * 1024 + 0, cellsS st blk M.length)], none⟩ ∧ g' (n + 1) = ⟨false, [((n + 1) * 1024 + 0, List.replicate 32 (vb 0))], none⟩ ∧ (∀ i, i < n → g' i = g i)) ?_ (zerosN M.length - 0) _ _ ⟨0, _, _, _, _, Nat.zero_le _, rfl, rfl, rfl, by omega, ?_, ?_, ?_, ?_, .inr ⟨rfl, n + 1 + 1, (n + 1 + 1) * 1024 + 0, [], rfl, ?_, by omega, by omega, by omega, by omega⟩, ?_, ?_, ?_⟩
  case refine_2 => simp (disch := omega) only [upd_same, upd_ne]
  case refine_3 => simp (disch := omega) only [upd_same, upd_ne]
  case refine_4 => simp (disch := omega) only [upd_same, upd_ne]
  case refine_5 => simp (disch := omega) only [upd_same, upd_ne]
  case refine_6 => rw [fupd_same]; rfl
  case refine_7 => rw [fupd_ne _ _ _ _ (by omega), fupd_ne _ _ _ _ (by omega), fupd_same]
  case refine_8 => rw [fupd_ne _ _ _ _ (by omega), fupd_same]; rfl
  case refine_9 => intro i hi; rw [fupd_ne _ _ _ _ (by omega), fupd_ne _ _ _ _ (by omega), fupd_ne _ _ _ _ (by omega)]
  clear L1
  rintro m fr s ⟨z, ao, h, n', g', hz, rfl, rfl, rfl, hn, h1, h2, h3, h4, hown, p1, p2, p0⟩
  have L1 := ld_one (n := n') (lim := lim) (rd := rd) (wr := wr) (ti32 ax) rfl (g := g') (f := n) (u := n * 1024 + 0) (off := 0 + 72) (cs := cellsS st blk M.length) (by rw [p1]; exact rowOf_one) (cellsS_cnt l8 l64)
  have cw : IntKind.i64.wrap ((M.length : Nat) : Int) = ((M.length : Nat) : Int) := inK_i64 (by omega)
  have ca : ((M.length : Nat) : Int) + ((1 + z : Nat) : Int) = ((M.length + (1 + z) : Nat) : Int) := by omega
  have cr : ((M.length + (1 + z) : Nat) : Int) % 64 = (((M.length + (1 + z)) % 64 : Nat) : Int) := by omega
  have hz64 : z < 64 := by unfold zerosN at hz; omega
  repeat apply W.seq
  apply W.region
  · simp (disch := first | omega | (simp (disch := omega) [ev_tmp, ev_const, get_of, upd_same, upd_ne, h1, h4, Tryd.underlying3, Tryd.underlying83, Tryd.underlying5, Tryd.underlying29, Tryd.underlying32, Tryd.underlying9, Tryd.underlying22]; done) | (apply inK_i64; omega) | (apply inK_u64; omega) | (rw [ca]; apply inK_i64; omega)) only [op_len, cond_true, cond_false, pick_on, stepC_if, goC_true, goC_false, guard_tt, guard_tf, guard_ft, guard_ff, slot_zero, slot_succ, put_some, runC_cons, runC_nil, stepC_free, dstC_dst, dstC_none, thenC_some, cop_assign, cop_move, cop_conv, cop_bin, cop_un, cop_pick, cop_index, cop_indexAddr, cop_load, cop_store, cop_alloc, cop_box, cop_build, cop_slice, cop_s2a, cop_field, cop_fieldAddr, cop_extract, cop_nilCheck, cop_call, cop_builtin, cop_buildSlice, ev_tmp, ev_const, ev_global, ev_func, put_of, get_of, upd_same, upd_ne, List.toList_toArray, List.map_cons, List.map_nil, some_map, none_map, ti3, ti83, ti5, ti29, ti32, h1, h4, fa2 ax, L1, IG, opConvert, ti3, ti32, oc_int, cw, len_sl (ti22 ax), oi_add, ca, oi_rem, cr, oi_neq]
    with_reducible rfl
  simp only [onN, onB]
  by_cases hend : z = zerosN M.length
  case neg =>
    have x1 : decide ((((M.length + (1 + z)) % 64 : Nat) : Int) ≠ 56) = true := decide_eq_true (by unfold zerosN at hz hend; omega)
    repeat apply W.seq
    refine W.cond (b := true) ?_ ?_
    · simp (disch := omega) only [ev_tmp, get_of, upd_same, upd_ne, x1, decide_true, decide_false]
    simp only [cond_true, cond_false]
    apply W.skip
    simp only [onN, onB]
    obtain ⟨ao', n2, g2, e1, o1, a1, a2, a3⟩ := OwnX.push (lim := lim) (bytes := 1) (rd := rd) (wr := wr) (v := vb 0) hown (by omega) (by omega) rfl (by omega)
    repeat apply W.seq
    apply W.block
    repeat apply W.seq
    apply W.region
    · simp (disch := first | omega | (simp (disch := omega) [ev_tmp, ev_const, get_of, upd_same, upd_ne, h4, cells_int, c0, vb_cells, Tryd.underlying3, Tryd.underlying83, Tryd.underlying5, Tryd.underlying29, Tryd.underlying32, Tryd.underlying9, Tryd.underlying22]; done) | (apply inK_i64; omega) | (apply inK_u64; omega)) only [op_len, cond_true, cond_false, pick_on, stepC_if, goC_true, goC_false, guard_tt, guard_tf, guard_ft, guard_ff, slot_zero, slot_succ, put_some, runC_cons, runC_nil, stepC_free, dstC_dst, dstC_none, thenC_some, cop_assign, cop_move, cop_conv, cop_bin, cop_un, cop_pick, cop_index, cop_indexAddr, cop_load, cop_store, cop_alloc, cop_box, cop_build, cop_slice, cop_s2a, cop_field, cop_fieldAddr, cop_extract, cop_nilCheck, cop_call, cop_builtin, cop_buildSlice, ev_tmp, ev_const, ev_global, ev_func, put_of, get_of, upd_same, upd_ne, List.toList_toArray, List.map_cons, List.map_nil, some_map, none_map, ti3, ti83, ti5, ti29, ti32, h4, opConvert, op_append (src_u8 ax), build_one (ti22 ax) (ti5 ax) rfl rfl, app_sl (el_u8 ax), c0, e1]
      with_reducible rfl
    simp only [onN, onB]
    refine ⟨zerosN M.length - (z + 1), by omega, z + 1, ao', _, n2, g2, by omega, rfl, rfl, rfl, by omega, ?_, ?_, ?_, ?_, ?_, by rw [a3 _ (by omega)]; exact p1, by rw [a3 _ (by omega)]; exact p2, fun i hi => by rw [a3 _ (by omega)]; exact p0 i hi⟩
    · simp (disch := omega) only [upd_same, upd_ne, h1]
    · simp (disch := omega) only [upd_same, upd_ne, h2]
    · simp (disch := omega) only [upd_same, upd_ne, h3]
    · simp (disch := omega) only [upd_same, upd_ne]; rfl
    · have : bvs (128 :: List.replicate (z + 1) 0) = bvs (128 :: List.replicate z 0) ++ [vb 0] := by
        rw [List.replicate_succ', ← List.cons_append, bvs_app]; rfl
      rw [this]; exact o1
  have x1 : decide ((((M.length + (1 + z)) % 64 : Nat) : Int) ≠ 56) = false := decide_eq_false (by unfold zerosN at hend; omega)
  repeat apply W.seq
  refine W.cond (b := false) ?_ ?_
  · simp (disch := omega) only [ev_tmp, get_of, upd_same, upd_ne, x1, decide_true, decide_false]
  simp only [cond_true, cond_false]
  apply W.exit
  simp only [onN, onB, Nat.beq_refl, cond_true, cond_false, bexit]
  repeat apply W.seq
  apply W.region
  · simp (disch := first | omega | (simp (disch := omega) [ev_tmp, ev_const, get_of, upd_same, upd_ne, Tryd.underlying3, Tryd.underlying83, Tryd.underlying5, Tryd.underlying29, Tryd.underlying32, Tryd.underlying9, Tryd.underlying22]; done) | (apply inK_i64; omega) | (apply inK_u64; omega)) only [op_len, cond_true, cond_false, pick_on, stepC_if, goC_true, goC_false, guard_tt, guard_tf, guard_ft, guard_ff, slot_zero, slot_succ, put_some, runC_cons, runC_nil, stepC_free, dstC_dst, dstC_none, thenC_some, cop_assign, cop_move, cop_conv, cop_bin, cop_un, cop_pick, cop_index, cop_indexAddr, cop_load, cop_store, cop_alloc, cop_box, cop_build, cop_slice, cop_s2a, cop_field, cop_fieldAddr, cop_extract, cop_nilCheck, cop_call, cop_builtin, cop_buildSlice, ev_tmp, ev_const, ev_global, ev_func, put_of, get_of, upd_same, upd_ne, List.toList_toArray, List.map_cons, List.map_nil, some_map, none_map, ti3, ti83, ti5, ti29, ti32]
    with_reducible rfl
  simp only [onN, onB]
  repeat apply W.seq
  apply W.block
  have hz65 : 1 + z ≤ 64 := by omega
  refine W.loop (fun m fr s => ∃ (i : Nat) (ao : Option Addr) (h : Nat → Value) (n' : Nat) (g' : Nat → Fam), i ≤ 8 ∧ m = 8 - i ∧ fr = Fr.of 58 h ∧ s = St n' g' lim rd wr ∧ n + 2 ≤ n' ∧ h 1 = .pointer (some (mkA n (n * 1024 + 0) 0)) ∧ h 2 = .pointer (some (mkA (n + 1) ((n + 1) * 1024 + 0) 0)) ∧ h 3 = vq (UInt64.ofNat (8 * M.length)) ∧ h 4 = .slice ao (1 + z + i) (1 + z + i) ∧ h 23 = .int .i64 (i : Int) ∧ OwnX (n + 2) g' n' 1 ao (1 + z + i) (bvs (128 :: List.replicate z 0 ++ lens M.length i)) ∧ g' n = ⟨false, [(n * 1024 + 0, cellsS st blk M.length)], none⟩ ∧ g' (n + 1) = ⟨false, [((n + 1) * 1024 + 0, List.replicate 32 (vb 0))], none⟩ ∧ (∀ i, i < n → g' i = g i)) ?_ (8 - 0) _ _ ⟨0, ao, _, _, _, by omega, rfl, rfl, rfl, hn, ?_, ?_, ?_, ?_, ?_, ?_, p1, p2, p0⟩
  case refine_2 => simp (disch := omega) only [upd_same, upd_ne, h1]
  case refine_3 => simp (disch := omega) only [upd_same, upd_ne, h2]
  case refine_4 => simp (disch := omega) only [upd_same, upd_ne, h3]
  case refine_5 => simp (disch := omega) only [upd_same, upd_ne, h4]; rfl
  case refine_6 => simp (disch := omega) only [upd_same, upd_ne]; rfl
  case refine_7 => rw [lens, List.append_nil]; exact hown
  clear h1 h2 h3 h4 hown p1 p2 p0 L1
  rintro m fr s ⟨i, ao, h, n', g', hi, rfl, rfl, rfl, hn, h1, h2, h3, h4, h23, hown, p1, p2, p0⟩
  repeat apply W.seq
  apply W.region
  · simp (disch := first | omega | (simp (disch := omega) [ev_tmp, ev_const, get_of, upd_same, upd_ne, h23, Tryd.underlying3, Tryd.underlying83, Tryd.underlying5, Tryd.underlying29, Tryd.underlying32, Tryd.underlying9, Tryd.underlying22]; done) | (apply inK_i64; omega) | (apply inK_u64; omega)) only [op_len, cond_true, cond_false, pick_on, stepC_if, goC_true, goC_false, guard_tt, guard_tf, guard_ft, guard_ff, slot_zero, slot_succ, put_some, runC_cons, runC_nil, stepC_free, dstC_dst, dstC_none, thenC_some, cop_assign, cop_move, cop_conv, cop_bin, cop_un, cop_pick, cop_index, cop_indexAddr, cop_load, cop_store, cop_alloc, cop_box, cop_build, cop_slice, cop_s2a, cop_field, cop_fieldAddr, cop_extract, cop_nilCheck, cop_call, cop_builtin, cop_buildSlice, ev_tmp, ev_const, ev_global, ev_func, put_of, get_of, upd_same, upd_ne, List.toList_toArray, List.map_cons, List.map_nil, some_map, none_map, ti3, ti83, ti5, ti29, ti32, oi_lss, h23]
    with_reducible rfl
  simp only [onN, onB]
  by_cases hi8 : (i : Int) < 8
  case pos =>
    repeat apply W.seq
    refine W.cond (b := true) ?_ ?_
    · simp (disch := omega) only [ev_tmp, get_of, upd_same, upd_ne, hi8, decide_true, decide_false]
    simp only [cond_true, cond_false]
    apply W.skip
    simp only [onN, onB]
    have c1 : (8 : Int) * ((i : Nat) : Int) = ((8 * i : Nat) : Int) := by omega
    have c2 : (56 : Int) - ((8 * i : Nat) : Int) = ((56 - 8 * i : Nat) : Int) := by omega
    obtain ⟨ao', n2, g2, e1, o1, a1, a2, a3⟩ := OwnX.push (lim := lim) (bytes := 1) (rd := rd) (wr := wr) (v := vb (lenB M.length i)) hown (by omega) (by omega) rfl (by omega)
    unfold lenB at e1
    repeat apply W.seq
    apply W.block
    repeat apply W.seq
    apply W.region
    · simp (disch := first | omega | (simp (disch := omega) [ev_tmp, ev_const, get_of, upd_same, upd_ne, h23, Tryd.underlying3, Tryd.underlying83, Tryd.underlying5, Tryd.underlying29, Tryd.underlying32, Tryd.underlying9, Tryd.underlying22]; done) | (apply inK_i64; omega) | (apply inK_u64; omega)) only [op_len, cond_true, cond_false, pick_on, stepC_if, goC_true, goC_false, guard_tt, guard_tf, guard_ft, guard_ff, slot_zero, slot_succ, put_some, runC_cons, runC_nil, stepC_free, dstC_dst, dstC_none, thenC_some, cop_assign, cop_move, cop_conv, cop_bin, cop_un, cop_pick, cop_index, cop_indexAddr, cop_load, cop_store, cop_alloc, cop_box, cop_build, cop_slice, cop_s2a, cop_field, cop_fieldAddr, cop_extract, cop_nilCheck, cop_call, cop_builtin, cop_buildSlice, ev_tmp, ev_const, ev_global, ev_func, put_of, get_of, upd_same, upd_ne, List.toList_toArray, List.map_cons, List.map_nil, some_map, none_map, ti3, ti83, ti5, ti29, ti32, h23]
      with_reducible rfl
    simp only [onN, onB]
    repeat apply W.seq
    apply W.region
    · simp (disch := first | omega | (simp (disch := omega) [ev_tmp, ev_const, get_of, upd_same, upd_ne, h3, h4, h23, vb_cells, Tryd.underlying3, Tryd.underlying83, Tryd.underlying5, Tryd.underlying29, Tryd.underlying32, Tryd.underlying9, Tryd.underlying22]; done) | (apply inK_i64; omega) | (apply inK_u64; omega) | (rw [c1]; apply inK_i64; omega) | (rw [c2]; apply inK_i64; omega)) only [op_len, cond_true, cond_false, pick_on, stepC_if, goC_true, goC_false, guard_tt, guard_tf, guard_ft, guard_ff, slot_zero, slot_succ, put_some, runC_cons, runC_nil, stepC_free, dstC_dst, dstC_none, thenC_some, cop_assign, cop_move, cop_conv, cop_bin, cop_un, cop_pick, cop_index, cop_indexAddr, cop_load, cop_store, cop_alloc, cop_box, cop_build, cop_slice, cop_s2a, cop_field, cop_fieldAddr, cop_extract, cop_nilCheck, cop_call, cop_builtin, cop_buildSlice, ev_tmp, ev_const, ev_global, ev_func, put_of, get_of, upd_same, upd_ne, List.toList_toArray, List.map_cons, List.map_nil, some_map, none_map, ti3, ti83, ti5, ti29, ti32, h3, h4, h23, oi_mul, c1, oi_sub, c2, bq_shr, conv_qb (ti32 ax) (ti5 ax), op_append (src_u8 ax), build_one (ti22 ax) (ti5 ax) rfl rfl, app_sl (el_u8 ax), e1]
      with_reducible rfl
    simp only [onN, onB]
    repeat apply W.seq
    apply W.region
    · simp (disch := first | omega | (simp (disch := omega) [ev_tmp, ev_const, get_of, upd_same, upd_ne, h23, Tryd.underlying3, Tryd.underlying83, Tryd.underlying5, Tryd.underlying29, Tryd.underlying32, Tryd.underlying9, Tryd.underlying22]; done) | (apply inK_i64; omega) | (apply inK_u64; omega)) only [op_len, cond_true, cond_false, pick_on, stepC_if, goC_true, goC_false, guard_tt, guard_tf, guard_ft, guard_ff, slot_zero, slot_succ, put_some, runC_cons, runC_nil, stepC_free, dstC_dst, dstC_none, thenC_some, cop_assign, cop_move, cop_conv, cop_bin, cop_un, cop_pick, cop_index, cop_indexAddr, cop_load, cop_store, cop_alloc, cop_box, cop_build, cop_slice, cop_s2a, cop_field, cop_fieldAddr, cop_extract, cop_nilCheck, cop_call, cop_builtin, cop_buildSlice, ev_tmp, ev_const, ev_global, ev_func, put_of, get_of, upd_same, upd_ne, List.toList_toArray, List.map_cons, List.map_nil, some_map, none_map, ti3, ti83, ti5, ti29, ti32, oi_add, h23]
      with_reducible rfl
    simp only [onN, onB]
    refine ⟨8 - (i + 1), by omega, i + 1, ao', _, n2, g2, by omega, rfl, rfl, rfl, by omega, ?_, ?_, ?_, ?_, ?_, ?_, by rw [a3 _ (by omega)]; exact p1, by rw [a3 _ (by omega)]; exact p2, fun i hi => by rw [a3 _ (by omega)]; exact p0 i hi⟩
    · simp (disch := omega) only [upd_same, upd_ne, h1]
    · simp (disch := omega) only [upd_same, upd_ne, h2]
    · simp (disch := omega) only [upd_same, upd_ne, h3]
    · simp (disch := omega) only [upd_same, upd_ne]; rfl
    · simp (disch := omega) only [upd_same, upd_ne]; rfl
    · rw [lens, ← List.append_assoc, bvs_app]; exact o1
  repeat apply W.seq
  refine W.cond (b := false) ?_ ?_
  · simp (disch := omega) only [ev_tmp, get_of, upd_same, upd_ne, hi8, decide_true, decide_false]
  simp only [cond_true, cond_false]
  apply W.exit
  simp only [onN, onB, Nat.beq_refl, cond_true, cond_false, bexit]
  have hi' : i = 8 := by omega
  subst hi'
  have hpad : 128 :: List.replicate z 0 ++ lens M.length 8 = padB M.length := by rw [hend]; rfl
  rw [hpad] at hown
  have hpl : (padB M.length).length = 1 + z + 8 := by rw [padB_len, hend]; omega
  have F1 := hown.first (lim := lim) (rd := rd) (wr := wr) (k := 1 + z + 8) (by omega) (Nat.le_refl _)
  rw [Nat.mul_one, List.take_of_length_le (by rw [bvs_len]; omega)] at F1
  have CV := fun ρ o => conv_str (P := Tryd.prog) (Γ := EE ax) (ρ := ρ) (o := o) (ti22 ax) (ti9 ax) (ti5 ax) F1
  have L1 := ld_all (n := n') (lim := lim) (rd := rd) (wr := wr) (tiS_at ax) tiS_agg (g := g') (f := n) (u := n * 1024 + 0) (cs := cellsS st blk M.length) (by rw [p1]; exact rowOf_one) (cellsS_len l8 l64)
  rw [IG] at L1
  have hsize : (ByteArray.mk (padB M.length).toArray).size = 1 + z + 8 := by show (padB M.length).toArray.size = _; rw [List.size_toArray]; exact hpl
  obtain ⟨st2, blk2, hR2, n2, g2, rd2, e2, a1, a2, a3⟩ := add_run ax hp hC M st blk hR ⟨(padB M.length).toArray⟩ (by rw [hsize]; omega) n' g' lim rd wr (by omega) (by omega) (by rw [p0 _ hG]; exact hk)
  have hdl : (ByteArray.mk (padB M.length).toArray).data.toList = padB M.length := List.toList_toArray ..
  rw [hdl] at hR2 e2
  have m8 := hR2.len
  have m64 := hR2.size
  have q1 : g2 n = ⟨false, [(n * 1024 + 0, cellsS st blk M.length)], none⟩ := by rw [a2 _ (by omega)]; exact p1
  have q2 : g2 (n + 1) = ⟨false, [((n + 1) * 1024 + 0, List.replicate 32 (vb 0))], none⟩ := by rw [a2 _ (by omega)]; exact p2
  have q0 : ∀ i, i < n → g2 i = g i := fun i hi => by rw [a2 _ (by omega)]; exact p0 i hi
  have S1 := st_all (n := n2) (lim := lim) (rd := rd2) (wr := wr) (tiS_at ax) (f := n) (u := n * 1024 + 0) (vs := cellsS st2 blk2 (M ++ padB M.length).length) q1 (cellsS_len m8 m64) (cellsS_len l8 l64) (cellsS_one _ _ _)
  rw [IG] at S1
  have hW : st2 = shaW M := hR2.eq
  have hstr : ∀ c : Nat, (Value.agg (cellsS st blk M.length).toArray) = strV st blk M.length := fun _ => rfl
  unfold strV at e2
  repeat apply W.seq
  apply W.region
  · simp (disch := first | omega | (simp (disch := omega) [ev_tmp, ev_const, get_of, upd_same, upd_ne, h1, h4, Tryd.underlying3, Tryd.underlying83, Tryd.underlying5, Tryd.underlying29, Tryd.underlying32, Tryd.underlying9, Tryd.underlying22]; done) | (apply inK_i64; omega) | (apply inK_u64; omega)) only [op_len, cond_true, cond_false, pick_on, stepC_if, goC_true, goC_false, guard_tt, guard_tf, guard_ft, guard_ff, slot_zero, slot_succ, put_some, runC_cons, runC_nil, stepC_free, dstC_dst, dstC_none, thenC_some, cop_assign, cop_move, cop_conv, cop_bin, cop_un, cop_pick, cop_index, cop_indexAddr, cop_load, cop_store, cop_alloc, cop_box, cop_build, cop_slice, cop_s2a, cop_field, cop_fieldAddr, cop_extract, cop_nilCheck, cop_call, cop_builtin, cop_buildSlice, ev_tmp, ev_const, ev_global, ev_func, put_of, get_of, upd_same, upd_ne, List.toList_toArray, List.map_cons, List.map_nil, some_map, none_map, ti3, ti83, ti5, ti29, ti32, h1, h4, L1, CV, e2, cells_agg, S1]
    with_reducible rfl
  simp only [onN, onB]
  generalize hg3 : fupd g2 n ⟨false, [(n * 1024 + 0, cellsS st2 blk2 (M ++ padB M.length).length)], none⟩ = g3
  have r1 : g3 n = ⟨false, [(n * 1024 + 0, cellsS st2 blk2 (M ++ padB M.length).length)], none⟩ := by rw [← hg3, fupd_same]
  have r2 : g3 (n + 1) = ⟨false, [((n + 1) * 1024 + 0, List.replicate 32 (vb 0))], none⟩ := by rw [← hg3, fupd_ne _ _ _ _ (by omega)]; exact q2
  have r0 : ∀ i, i < n → g3 i = g i := fun i hi => by rw [← hg3, fupd_ne _ _ _ _ (by omega)]; exact q0 i hi
  clear hg3 q1 q2 q0 S1 L1 p1 p2 p0 F1 CV
  repeat apply W.seq
  apply W.region
  · simp (disch := first | omega | (simp (disch := omega) [ev_tmp, ev_const, get_of, upd_same, upd_ne, Tryd.underlying3, Tryd.underlying83, Tryd.underlying5, Tryd.underlying29, Tryd.underlying32, Tryd.underlying9, Tryd.underlying22]; done) | (apply inK_i64; omega) | (apply inK_u64; omega)) only [op_len, cond_true, cond_false, pick_on, stepC_if, goC_true, goC_false, guard_tt, guard_tf, guard_ft, guard_ff, slot_zero, slot_succ, put_some, runC_cons, runC_nil, stepC_free, dstC_dst, dstC_none, thenC_some, cop_assign, cop_move, cop_conv, cop_bin, cop_un, cop_pick, cop_index, cop_indexAddr, cop_load, cop_store, cop_alloc, cop_box, cop_build, cop_slice, cop_s2a, cop_field, cop_fieldAddr, cop_extract, cop_nilCheck, cop_call, cop_builtin, cop_buildSlice, ev_tmp, ev_const, ev_global, ev_func, put_of, get_of, upd_same, upd_ne, List.toList_toArray, List.map_cons, List.map_nil, some_map, none_map, ti3, ti83, ti5, ti29, ti32, alloc_st (ti24 ax)]
    with_reducible rfl
  simp only [onN, onB]
  repeat apply W.seq
  apply W.region
  · simp (disch := first | omega | (simp (disch := omega) [ev_tmp, ev_const, get_of, upd_same, upd_ne, Tryd.underlying3, Tryd.underlying83, Tryd.underlying5, Tryd.underlying29, Tryd.underlying32, Tryd.underlying9, Tryd.underlying22]; done) | (apply inK_i64; omega) | (apply inK_u64; omega)) only [op_len, cond_true, cond_false, pick_on, stepC_if, goC_true, goC_false, guard_tt, guard_tf, guard_ft, guard_ff, slot_zero, slot_succ, put_some, runC_cons, runC_nil, stepC_free, dstC_dst, dstC_none, thenC_some, cop_assign, cop_move, cop_conv, cop_bin, cop_un, cop_pick, cop_index, cop_indexAddr, cop_load, cop_store, cop_alloc, cop_box, cop_build, cop_slice, cop_s2a, cop_field, cop_fieldAddr, cop_extract, cop_nilCheck, cop_call, cop_builtin, cop_buildSlice, ev_tmp, ev_const, ev_global, ev_func, put_of, get_of, upd_same, upd_ne, List.toList_toArray, List.map_cons, List.map_nil, some_map, none_map, ti3, ti83, ti5, ti29, ti32]
    with_reducible rfl
  simp only [onN, onB]
  repeat apply W.seq
  apply W.block
  refine W.loop (fun m fr s => ∃ (i : Nat) (h : Nat → Value) (g' : Nat → Fam), i ≤ 32 ∧ m = 32 - i ∧ fr = Fr.of 58 h ∧ s = St (n2 + 1) g' lim rd2 wr ∧ h 1 = .pointer (some (mkA n (n * 1024 + 0) 0)) ∧ h 2 = .pointer (some (mkA (n + 1) ((n + 1) * 1024 + 0) 0)) ∧ h 6 = .pointer (some (mkA n2 (n2 * 1024 + 0) 0)) ∧ h 40 = .int .i64 (i : Int) ∧ g' n = ⟨false, [(n * 1024 + 0, cellsS st2 blk2 (M ++ padB M.length).length)], none⟩ ∧ g' (n + 1) = ⟨false, [((n + 1) * 1024 + 0, List.replicate 32 (vb 0))], none⟩ ∧ g' n2 = ⟨false, [(n2 * 1024 + 0, bvs (outs st2 i) ++ List.replicate (32 - i) (vb 0))], none⟩ ∧ (∀ i, i < n → g' i = g i)) ?_ (32 - 0) _ _ ⟨0, _, _, by omega, rfl, rfl, rfl, ?_, ?_, ?_, ?_, ?_, ?_, ?_, ?_⟩
  case refine_2 => simp (disch := omega) only [upd_same, upd_ne, h1]
  case refine_3 => simp (disch := omega) only [upd_same, upd_ne, h2]
  case refine_4 => simp (disch := omega) only [upd_same, upd_ne]
  case refine_5 => simp (disch := omega) only [upd_same, upd_ne]; rfl
  case refine_6 => rw [fupd_ne _ _ _ _ (by omega)]; exact r1
  case refine_7 => rw [fupd_ne _ _ _ _ (by omega)]; exact r2
  case refine_8 => rw [fupd_same]; rfl
  case refine_9 => intro i hi; rw [fupd_ne _ _ _ _ (by omega)]; exact r0 i hi
  clear r1 r2 r0 h1 h2 h3 h4 h23 hown
  rintro m fr s ⟨i, h, g', hi, rfl, rfl, rfl, h1, h2, h6, h40, p1, p2, p3, p0⟩
  repeat apply W.seq
  apply W.region
  · simp (disch := first | omega | (simp (disch := omega) [ev_tmp, ev_const, get_of, upd_same, upd_ne, h40, Tryd.underlying3, Tryd.underlying83, Tryd.underlying5, Tryd.underlying29, Tryd.underlying32, Tryd.underlying9, Tryd.underlying22]; done) | (apply inK_i64; omega) | (apply inK_u64; omega)) only [op_len, cond_true, cond_false, pick_on, stepC_if, goC_true, goC_false, guard_tt, guard_tf, guard_ft, guard_ff, slot_zero, slot_succ, put_some, runC_cons, runC_nil, stepC_free, dstC_dst, dstC_none, thenC_some, cop_assign, cop_move, cop_conv, cop_bin, cop_un, cop_pick, cop_index, cop_indexAddr, cop_load, cop_store, cop_alloc, cop_box, cop_build, cop_slice, cop_s2a, cop_field, cop_fieldAddr, cop_extract, cop_nilCheck, cop_call, cop_builtin, cop_buildSlice, ev_tmp, ev_const, ev_global, ev_func, put_of, get_of, upd_same, upd_ne, List.toList_toArray, List.map_cons, List.map_nil, some_map, none_map, ti3, ti83, ti5, ti29, ti32, oi_lss, h40]
    with_reducible rfl
  simp only [onN, onB]
  by_cases hi32 : (i : Int) < 32
  case neg =>
    repeat apply W.seq
    refine W.cond (b := false) ?_ ?_
    · simp (disch := omega) only [ev_tmp, get_of, upd_same, upd_ne, hi32, decide_true, decide_false]
    simp only [cond_true, cond_false]
    apply W.exit
    simp only [onN, onB, Nat.beq_refl, cond_true, cond_false, bexit]
    have hi' : i = 32 := by omega
    subst hi'
    have hbl : (bvs (outs st2 32) ++ List.replicate (32 - 32) (vb 0)) = bvs (sha M) := by
      rw [Nat.sub_self, List.replicate_zero, List.append_nil, hW]; rfl
    rw [hbl] at p3
    have L1 := ld_all (n := n2 + 1) (lim := lim) (rd := rd2) (wr := wr) (ti24 ax) rfl (g := g') (f := n2) (u := n2 * 1024 + 0) (cs := bvs (sha M)) (by rw [p3]; exact rowOf_one) (by rw [bvs_len, sha_len])
    rw [ins_ge (f := n2) _ (by omega)] at L1
    have S1 := st_all (n := n2 + 1) (lim := lim) (rd := rd2) (wr := wr) (ti24 ax) (f := n + 1) (u := (n + 1) * 1024 + 0) (vs := bvs (sha M)) p2 (by rw [bvs_len, sha_len]) (by simp) (bvs_one _)
    rw [ins_ge (f := n + 1) _ (by omega)] at S1
    repeat apply W.seq
    apply W.region
    · simp (disch := first | omega | (simp (disch := omega) [ev_tmp, ev_const, get_of, upd_same, upd_ne, h2, h6, Tryd.underlying3, Tryd.underlying83, Tryd.underlying5, Tryd.underlying29, Tryd.underlying32, Tryd.underlying9, Tryd.underlying22]; done) | (apply inK_i64; omega) | (apply inK_u64; omega)) only [op_len, cond_true, cond_false, pick_on, stepC_if, goC_true, goC_false, guard_tt, guard_tf, guard_ft, guard_ff, slot_zero, slot_succ, put_some, runC_cons, runC_nil, stepC_free, dstC_dst, dstC_none, thenC_some, cop_assign, cop_move, cop_conv, cop_bin, cop_un, cop_pick, cop_index, cop_indexAddr, cop_load, cop_store, cop_alloc, cop_box, cop_build, cop_slice, cop_s2a, cop_field, cop_fieldAddr, cop_extract, cop_nilCheck, cop_call, cop_builtin, cop_buildSlice, ev_tmp, ev_const, ev_global, ev_func, put_of, get_of, upd_same, upd_ne, List.toList_toArray, List.map_cons, List.map_nil, some_map, none_map, ti3, ti83, ti5, ti29, ti32, h2, h6, L1, cells_agg, S1]
      with_reducible rfl
    simp only [onN, onB]
    apply W.ret
    refine ⟨.inr rfl, n2 + 1, fupd g' (n + 1) ⟨false, [((n + 1) * 1024 + 0, bvs (sha M))], none⟩, rd2, ?_, by omega, fun i hi => by rw [fupd_ne _ _ _ _ (by omega)]; exact p0 i hi, a3⟩
    have L2 := ld_all (n := n2 + 1) (lim := lim) (rd := rd2) (wr := wr) (ti24 ax) rfl (g := fupd g' (n + 1) ⟨false, [((n + 1) * 1024 + 0, bvs (sha M))], none⟩) (f := n + 1) (u := (n + 1) * 1024 + 0) (cs := bvs (sha M)) (by rw [fupd_same]; exact rowOf_one) (by rw [bvs_len, sha_len])
    rw [ins_ge (f := n + 1) _ (by omega)] at L2
    simp (disch := first | omega | (simp (disch := omega) only [get_of, upd_same, upd_ne, h2]; done)) only [resC_cell (ad := mkA (n + 1) ((n + 1) * 1024 + 0) 0), resC_nil, Tryd.results23, L2, resThen_some, resAdd_some]
  repeat apply W.seq
  refine W.cond (b := true) ?_ ?_
  · simp (disch := omega) only [ev_tmp, get_of, upd_same, upd_ne, hi32, decide_true, decide_false]
  simp only [cond_true, cond_false]
  apply W.skip
  simp only [onN, onB]
  have hil : i < 32 := by omega
  have d1 : ((i : Nat) : Int) / 4 = ((i / 4 : Nat) : Int) := by omega
  have d2 : ((i : Nat) : Int) % 4 = ((i % 4 : Nat) : Int) := by omega
  have d3 : (8 : Int) * ((i % 4 : Nat) : Int) = ((8 * (i % 4) : Nat) : Int) := by omega
  have d4 : (24 : Int) - ((8 * (i % 4) : Nat) : Int) = ((24 - 8 * (i % 4) : Nat) : Int) := by omega
  have L1 := ld_one (n := n2 + 1) (lim := lim) (rd := rd2) (wr := wr) (ti29 ax) rfl (g := g') (f := n) (u := n * 1024 + 0) (off := i / 4) (cs := cellsS st2 blk2 (M ++ padB M.length).length) (by rw [p1]; exact rowOf_one) (cellsS_word m8 m64 (by omega))
  rw [IG] at L1
  have S1 := st_one (n := n2 + 1) (lim := lim) (rd := rd2) (wr := wr) (ti5 ax) (f := n2) (u := n2 * 1024 + 0) (off := 0 + i) (v := vb (outB st2 i)) p3 (by rw [List.length_append, bvs_len, outs_len, List.length_replicate]; omega) rfl
  rw [ins_ge (f := n2) _ (by omega), Nat.zero_add, out_cells st2 i hil] at S1
  unfold outB at S1
  repeat apply W.seq
  apply W.block
  repeat apply W.seq
  apply W.region
  · simp (disch := first | omega | (simp (disch := omega) [ev_tmp, ev_const, get_of, upd_same, upd_ne, h40, Tryd.underlying3, Tryd.underlying83, Tryd.underlying5, Tryd.underlying29, Tryd.underlying32, Tryd.underlying9, Tryd.underlying22]; done) | (apply inK_i64; omega) | (apply inK_u64; omega)) only [op_len, cond_true, cond_false, pick_on, stepC_if, goC_true, goC_false, guard_tt, guard_tf, guard_ft, guard_ff, slot_zero, slot_succ, put_some, runC_cons, runC_nil, stepC_free, dstC_dst, dstC_none, thenC_some, cop_assign, cop_move, cop_conv, cop_bin, cop_un, cop_pick, cop_index, cop_indexAddr, cop_load, cop_store, cop_alloc, cop_box, cop_build, cop_slice, cop_s2a, cop_field, cop_fieldAddr, cop_extract, cop_nilCheck, cop_call, cop_builtin, cop_buildSlice, ev_tmp, ev_const, ev_global, ev_func, put_of, get_of, upd_same, upd_ne, List.toList_toArray, List.map_cons, List.map_nil, some_map, none_map, ti3, ti83, ti5, ti29, ti32, h40]
    with_reducible rfl
  simp only [onN, onB]
  repeat apply W.seq
  apply W.region
  · simp (disch := first | omega | (simp (disch := omega) [ev_tmp, ev_const, get_of, upd_same, upd_ne, h1, h6, h40, Tryd.underlying3, Tryd.underlying83, Tryd.underlying5, Tryd.underlying29, Tryd.underlying32, Tryd.underlying9, Tryd.underlying22]; done) | (apply inK_i64; omega) | (apply inK_u64; omega) | (rw [d1]; apply inK_i64; omega) | (rw [d3]; apply inK_i64; omega) | (rw [d4]; apply inK_i64; omega)) only [op_len, cond_true, cond_false, pick_on, stepC_if, goC_true, goC_false, guard_tt, guard_tf, guard_ft, guard_ff, slot_zero, slot_succ, put_some, runC_cons, runC_nil, stepC_free, dstC_dst, dstC_none, thenC_some, cop_assign, cop_move, cop_conv, cop_bin, cop_un, cop_pick, cop_index, cop_indexAddr, cop_load, cop_store, cop_alloc, cop_box, cop_build, cop_slice, cop_s2a, cop_field, cop_fieldAddr, cop_extract, cop_nilCheck, cop_call, cop_builtin, cop_buildSlice, ev_tmp, ev_const, ev_global, ev_func, put_of, get_of, upd_same, upd_ne, List.toList_toArray, List.map_cons, List.map_nil, some_map, none_map, ti3, ti83, ti5, ti29, ti32, h1, h6, h40, oi_quo, d1, oi_rem, d2, oi_mul, d3, oi_sub, d4, natOf_nat, fa0 ax, idx_arr (ti30 ax) (ti29 ax) (show i / 4 < 8 by omega), L1, bw_shr, conv_wb (ti29 ax) (ti5 ax), idx_arr (ti24 ax) (ti5 ax) hil, Nat.zero_add, cells_vb, S1]
    with_reducible rfl
  simp only [onN, onB]
  repeat apply W.seq
  apply W.region
  · simp (disch := first | omega | (simp (disch := omega) [ev_tmp, ev_const, get_of, upd_same, upd_ne, h40, Tryd.underlying3, Tryd.underlying83, Tryd.underlying5, Tryd.underlying29, Tryd.underlying32, Tryd.underlying9, Tryd.underlying22]; done) | (apply inK_i64; omega) | (apply inK_u64; omega)) only [op_len, cond_true, cond_false, pick_on, stepC_if, goC_true, goC_false, guard_tt, guard_tf, guard_ft, guard_ff, slot_zero, slot_succ, put_some, runC_cons, runC_nil, stepC_free, dstC_dst, dstC_none, thenC_some, cop_assign, cop_move, cop_conv, cop_bin, cop_un, cop_pick, cop_index, cop_indexAddr, cop_load, cop_store, cop_alloc, cop_box, cop_build, cop_slice, cop_s2a, cop_field, cop_fieldAddr, cop_extract, cop_nilCheck, cop_call, cop_builtin, cop_buildSlice, ev_tmp, ev_const, ev_global, ev_func, put_of, get_of, upd_same, upd_ne, List.toList_toArray, List.map_cons, List.map_nil, some_map, none_map, ti3, ti83, ti5, ti29, ti32, oi_add, h40]
    with_reducible rfl
  simp only [onN, onB]
  refine ⟨32 - (i + 1), by omega, i + 1, _, _, by omega, rfl, rfl, rfl, ?_, ?_, ?_, ?_, ?_, ?_, ?_, ?_⟩
  · simp (disch := omega) only [upd_same, upd_ne, h1]
  · simp (disch := omega) only [upd_same, upd_ne, h2]
  · simp (disch := omega) only [upd_same, upd_ne, h6]
  · simp (disch := omega) only [upd_same, upd_ne]; rfl
  · rw [fupd_ne _ _ _ _ (by omega)]; exact p1
  · rw [fupd_ne _ _ _ _ (by omega)]; exact p2
  · rw [fupd_same]
  · intro i hi; rw [fupd_ne _ _ _ _ (by omega)]; exact p0 i hi
end Go.Proofs.YtcmfoipnoejmlaaDoor
namespace Go.Proofs.YtcmfoipnoejmlaaDoor
open Go Go.RowKit
set_option linter.unusedSimpArgs false
set_option linter.unusedVariables false
set_option maxRecDepth 100000
/-- a slice of bytes that may be read whole -/
def ByteArg (g : Nat → Fam) (n : Nat) (x : Option Addr) (len : Nat) (bs : List UInt8) : Prop :=
  bs.length = len ∧ (len = 0 ∨ ∃ f u off cs, x = some (mkA f u off) ∧ f < n ∧ rowOf (g f).rows u = some cs ∧ off + len ≤ cs.length ∧ (cs.drop off).take len = bvs bs)
def RB (x : Option Addr) (i : Nat) : Prop := ∃ a, x = some a ∧ a.block = i
theorem ByteArg.first {g g' : Nat → Fam} {n N len cap lim : Nat} {rd wr : List Nat} {x : Option Addr} {bs : List UInt8} (h : ByteArg g n x len bs) (hg : ∀ i, i < n → g' i = g i) :
    ∃ rd', CS.firstCells (St N g' lim rd wr) 1 len (.slice x len cap) = some (bvs bs, St N g' lim rd' wr) ∧ ∀ y, y ∈ rd' → y ∈ rd ∨ (RB x y ∧ y < n) := by
  obtain ⟨h1, h⟩ := h
  by_cases h0 : len = 0
  · subst h0
    have : bs = [] := List.eq_nil_of_length_eq_zero h1
    subst this
    exact ⟨rd, first_zero (by simp), fun y hy => .inl hy⟩
  · rcases h with h | ⟨f, u, off, cs, rfl, hf, hr, hl, hc⟩
    · exact absurd h h0
    · refine ⟨ins lim rd f, ?_, fun y hy => ?_⟩
      · rw [first_slq (cs := cs) (by rw [hg f hf]; exact hr) (by omega) (by omega), Nat.mul_one, hc]
      · rcases mem_ins hy with hy | hy
        · exact .inl hy
        · exact .inr ⟨⟨_, rfl, by rw [block_mk]; exact hy.1.symm⟩, by omega⟩
set_option maxHeartbeats 1000000 in
theorem hsum_run (ax : Axs) (hp : Plain ax) (hC : ax 53 = some hComp) (x : Option Addr) (len cap : Nat) (bs : List UInt8) (hlen : len < 10000000000) (n : Nat) (g : Nat → Fam) (lim : Nat) (rd wr : List Nat) (hl : lim ≤ n) (hb : ByteArg g n x len bs) (hG : 1 < n) (hk : rowOf (g 1).rows (1 * 1024) = some (wvs KW)) :
    Ret Tryd.prog (EE ax) 17 [.slice x len cap] n g lim rd wr (fun i => RG i ∨ (RB x i ∧ i < n)) (.agg (bvs (sha bs)).toArray) := by
  have hax : ax 17 = none := hp _ (by decide)
  refine Ret.of (fn := Tryd.f17) 8 hax (fn17 ax) rfl Tryd.ntmps17 (by simp) ?_
  simp (disch := omega) only [ofArgs_cons, ofArgs_nil, Nat.reduceAdd]
  repeat apply W.seq
  apply W.region
  · simp (disch := first | omega | (simp (disch := omega) [ev_tmp, ev_const, get_of, upd_same, upd_ne, Tryd.underlying3, Tryd.underlying83, Tryd.underlying5, Tryd.underlying29, Tryd.underlying32, Tryd.underlying9, Tryd.underlying22]; done) | (apply inK_i64; omega) | (apply inK_u64; omega)) only [op_len, cond_true, cond_false, pick_on, stepC_if, goC_true, goC_false, guard_tt, guard_tf, guard_ft, guard_ff, slot_zero, slot_succ, put_some, runC_cons, runC_nil, stepC_free, dstC_dst, dstC_none, thenC_some, cop_assign, cop_move, cop_conv, cop_bin, cop_un, cop_pick, cop_index, cop_indexAddr, cop_load, cop_store, cop_alloc, cop_box, cop_build, cop_slice, cop_s2a, cop_field, cop_fieldAddr, cop_extract, cop_nilCheck, cop_call, cop_builtin, cop_buildSlice, ev_tmp, ev_const, ev_global, ev_func, put_of, get_of, upd_same, upd_ne, List.toList_toArray, List.map_cons, List.map_nil, some_map, none_map, ti3, ti83, ti5, ti29, ti32, alloc_st (ti24 ax)]
    with_reducible rfl
  simp only [onN, onB]
  generalize hg0 : fupd g n ⟨false, [(n * 1024 + 0, List.replicate 32 (.int .u8 0))], none⟩ = g0
  have p1 : g0 n = ⟨false, [(n * 1024 + 0, List.replicate 32 (vb 0))], none⟩ := by rw [← hg0, fupd_same]; rfl
  have p0 : ∀ i, i < n → g0 i = g i := fun i hi => by rw [← hg0, fupd_ne _ _ _ _ (by omega)]
  clear hg0
  obtain ⟨n1, g1, rd1, e1, a1, a2, a3⟩ := begin_run ax hp (n + 1) g0 (n + 1) [] [] (Nat.le_refl _)
  have q1 : ∀ y, y ∈ rd1 → y < n + 1 := fun y hy => by rcases a3 y hy with h | h; simp at h; exact h.1.elim
  obtain ⟨rdc, ec, c3⟩ := hb.first (N := n1) (g' := g1) (lim := n1) (rd := []) (wr := []) (cap := cap) (fun i hi => by rw [a2 _ (by omega)]; exact p0 i hi)
  have qc : ∀ y, y ∈ rdc → y < n + 1 := fun y hy => by rcases c3 y hy with h | h; simp at h; omega
  have CV := fun ρ o => conv_str (P := Tryd.prog) (Γ := EE ax) (ρ := ρ) (o := o) (ti22 ax) (ti9 ax) (ti5 ax) ec
  have hsize : (ByteArray.mk bs.toArray).size = len := by show bs.toArray.size = _; rw [List.size_toArray]; exact hb.1
  have hdl : (ByteArray.mk bs.toArray).data.toList = bs := List.toList_toArray ..
  obtain ⟨st2, blk2, hR2, n2, g2, rd2, e2, b1, b2, b3⟩ := add_run ax hp hC [] IVW (List.replicate 64 0) (Repr.start _ rfl) ⟨bs.toArray⟩ (by rw [hsize]; simp; omega) n1 g1 n1 [] [] (Nat.le_refl _) (by omega) (by rw [a2 _ (by omega), p0 _ hG]; exact hk)
  rw [hdl, List.nil_append] at hR2 e2
  rw [List.length_nil] at e2
  have q2 : ∀ y, y ∈ rd2 → y < n + 1 := fun y hy => by
    rcases b3 y hy with h | h
    · simp at h
    · have := h.1; unfold RG at this; omega
  obtain ⟨n3, g3, rd3, e3, d1, d2, d3⟩ := ssum_run ax hp hC bs st2 blk2 hR2 (by rw [hb.1]; omega) n2 g2 n2 [] [] (Nat.le_refl _) (by omega) (by rw [b2 _ (by omega), a2 _ (by omega), p0 _ hG]; exact hk)
  have q3 : ∀ y, y ∈ rd3 → y < n + 1 := fun y hy => by
    rcases d3 y hy with h | h
    · simp at h
    · have := h.1; unfold RG at this; omega
  have r1 : g3 n = ⟨false, [(n * 1024 + 0, List.replicate 32 (vb 0))], none⟩ := by rw [d2 _ (by omega), b2 _ (by omega), a2 _ (by omega)]; exact p1
  have r0 : ∀ i, i < n → g3 i = g i := fun i hi => by rw [d2 _ (by omega), b2 _ (by omega), a2 _ (by omega)]; exact p0 i hi
  have S1 := st_allq (n := n3) (ti24 ax) (g := g3) (f := n) (u := n * 1024 + 0) (vs := bvs (sha bs)) r1 (by rw [bvs_len, sha_len]) (by simp) (bvs_one _) (by omega)
  have IG := fun l => ins_ge (m := lim) (f := n) l (by omega)
  repeat apply W.seq
  apply W.last
  · kernel_rfl
  · simp (disch := first | omega | (simp (disch := omega) [ev_tmp, ev_const, get_of, upd_same, upd_ne, Tryd.underlying3, Tryd.underlying83, Tryd.underlying5, Tryd.underlying29, Tryd.underlying32, Tryd.underlying9, Tryd.underlying22]; done) | (apply inK_i64; omega) | (apply inK_u64; omega)) only [op_len, cond_true, cond_false, pick_on, stepC_if, goC_true, goC_false, guard_tt, guard_tf, guard_ft, guard_ff, slot_zero, slot_succ, put_some, runC_cons, runC_nil, stepC_free, dstC_dst, dstC_none, thenC_some, cop_assign, cop_move, cop_conv, cop_bin, cop_un, cop_pick, cop_index, cop_indexAddr, cop_load, cop_store, cop_alloc, cop_box, cop_build, cop_slice, cop_s2a, cop_field, cop_fieldAddr, cop_extract, cop_nilCheck, cop_call, cop_builtin, cop_buildSlice, ev_tmp, ev_const, ev_global, ev_func, put_of, get_of, upd_same, upd_ne, List.toList_toArray, List.map_cons, List.map_nil, some_map, none_map, ti3, ti83, ti5, ti29, ti32, quietL_cons, quietL_one, inner_st, thenL_same, thenL_rd, lastL_some, insAll_nil, insAll_cons, e1, CV, e2, e3, thenL_gen q1, thenL_gen qc, thenL_gen q2, thenL_gen q3, cells_agg, S1, IG]
    with_reducible rfl
  simp only [onN, onB]
  apply W.ret
  refine ⟨.inr rfl, n3, fupd g3 n ⟨false, [(n * 1024 + 0, bvs (sha bs))], none⟩, insAll lim (insAll lim (insAll lim (insAll lim rd rd1) rdc) rd2) rd3, ?_, by omega, fun i hi => by rw [fupd_ne _ _ _ _ (by omega)]; exact r0 i hi, ?_⟩
  · have L2 := fun rd => ld_all (n := n3) (lim := lim) (rd := rd) (wr := wr) (ti24 ax) rfl (g := fupd g3 n ⟨false, [(n * 1024 + 0, bvs (sha bs))], none⟩) (f := n) (u := n * 1024 + 0) (cs := bvs (sha bs)) (by rw [fupd_same]; exact rowOf_one) (by rw [bvs_len, sha_len])
    simp only [IG] at L2
    simp (disch := first | omega | (simp (disch := omega) only [get_of, upd_same, upd_ne]; done)) only [resC_cell (ad := mkA n (n * 1024 + 0) 0), resC_nil, Tryd.results17, L2, resThen_some, resAdd_some]
  · intro y hy
    rcases insAll_mem rfl y hy with hy | ⟨hy, hyl⟩
    · rcases insAll_mem rfl y hy with hy | ⟨hy, hyl⟩
      · rcases insAll_mem rfl y hy with hy | ⟨hy, hyl⟩
        · rcases insAll_mem rfl y hy with hy | ⟨hy, hyl⟩
          · exact .inl hy
          · rcases a3 y hy with h | h
            · simp at h
            · exact h.1.elim
        · rcases c3 y hy with h | h
          · simp at h
          · exact .inr ⟨.inr h, hyl⟩
      · rcases b3 y hy with h | h
        · simp at h
        · exact .inr ⟨.inl h.1, hyl⟩
    · rcases d3 y hy with h | h
      · simp at h
      · exact .inr ⟨.inl h.1, hyl⟩
set_option maxHeartbeats 1000000 in
theorem b32_run (ax : Axs) (hp : Plain ax) (h : List UInt8) (h32 : h.length = 32) (n : Nat) (g : Nat → Fam) (lim : Nat) (rd wr : List Nat) (hl : lim ≤ n) :
    Ret Tryd.prog (EE ax) 26 [.agg (bvs h).toArray] n g lim rd wr (fun _ => False) (.string ⟨h.toArray⟩) := by
  have hax : ax 26 = none := hp _ (by decide)
  refine Ret.of (fn := Tryd.f26) 17 hax (fn26 ax) rfl Tryd.ntmps26 (by simp) ?_
  simp (disch := omega) only [ofArgs_cons, ofArgs_nil, Nat.reduceAdd]
  repeat apply W.seq
  apply W.region
  · simp (disch := first | omega | (simp (disch := omega) [ev_tmp, ev_const, get_of, upd_same, upd_ne, Tryd.underlying3, Tryd.underlying83, Tryd.underlying5, Tryd.underlying29, Tryd.underlying32, Tryd.underlying9, Tryd.underlying22]; done) | (apply inK_i64; omega) | (apply inK_u64; omega)) only [op_len, cond_true, cond_false, pick_on, stepC_if, goC_true, goC_false, guard_tt, guard_tf, guard_ft, guard_ff, slot_zero, slot_succ, put_some, runC_cons, runC_nil, stepC_free, dstC_dst, dstC_none, thenC_some, cop_assign, cop_move, cop_conv, cop_bin, cop_un, cop_pick, cop_index, cop_indexAddr, cop_load, cop_store, cop_alloc, cop_box, cop_build, cop_slice, cop_s2a, cop_field, cop_fieldAddr, cop_extract, cop_nilCheck, cop_call, cop_builtin, cop_buildSlice, ev_tmp, ev_const, ev_global, ev_func, put_of, get_of, upd_same, upd_ne, List.toList_toArray, List.map_cons, List.map_nil, some_map, none_map, ti3, ti83, ti5, ti29, ti32, box_st, cells_agg]
    with_reducible rfl
  simp only [onN, onB]
  repeat apply W.seq
  apply W.region
  · simp (disch := first | omega | (simp (disch := omega) [ev_tmp, ev_const, get_of, upd_same, upd_ne, Tryd.underlying3, Tryd.underlying83, Tryd.underlying5, Tryd.underlying29, Tryd.underlying32, Tryd.underlying9, Tryd.underlying22]; done) | (apply inK_i64; omega) | (apply inK_u64; omega)) only [op_len, cond_true, cond_false, pick_on, stepC_if, goC_true, goC_false, guard_tt, guard_tf, guard_ft, guard_ff, slot_zero, slot_succ, put_some, runC_cons, runC_nil, stepC_free, dstC_dst, dstC_none, thenC_some, cop_assign, cop_move, cop_conv, cop_bin, cop_un, cop_pick, cop_index, cop_indexAddr, cop_load, cop_store, cop_alloc, cop_box, cop_build, cop_slice, cop_s2a, cop_field, cop_fieldAddr, cop_extract, cop_nilCheck, cop_call, cop_builtin, cop_buildSlice, ev_tmp, ev_const, ev_global, ev_func, put_of, get_of, upd_same, upd_ne, List.toList_toArray, List.map_cons, List.map_nil, some_map, none_map, ti3, ti83, ti5, ti29, ti32]
    with_reducible rfl
  simp only [onN, onB]
  repeat apply W.seq
  apply W.region
  · simp (disch := first | omega | (simp (disch := omega) [ev_tmp, ev_const, get_of, upd_same, upd_ne, Tryd.underlying3, Tryd.underlying83, Tryd.underlying5, Tryd.underlying29, Tryd.underlying32, Tryd.underlying9, Tryd.underlying22]; done) | (apply inK_i64; omega) | (apply inK_u64; omega)) only [op_len, cond_true, cond_false, pick_on, stepC_if, goC_true, goC_false, guard_tt, guard_tf, guard_ft, guard_ff, slot_zero, slot_succ, put_some, runC_cons, runC_nil, stepC_free, dstC_dst, dstC_none, thenC_some, cop_assign, cop_move, cop_conv, cop_bin, cop_un, cop_pick, cop_index, cop_indexAddr, cop_load, cop_store, cop_alloc, cop_box, cop_build, cop_slice, cop_s2a, cop_field, cop_fieldAddr, cop_extract, cop_nilCheck, cop_call, cop_builtin, cop_buildSlice, ev_tmp, ev_const, ev_global, ev_func, put_of, get_of, upd_same, upd_ne, List.toList_toArray, List.map_cons, List.map_nil, some_map, none_map, ti3, ti83, ti5, ti29, ti32]
    with_reducible rfl
  simp only [onN, onB]
  repeat apply W.seq
  apply W.block
  refine W.loop (fun m fr s => ∃ (i : Nat) (ao : Option Addr) (q : Nat → Value) (n' : Nat) (g' : Nat → Fam), i ≤ 32 ∧ m = 32 - i ∧ fr = Fr.of 17 q ∧ s = St n' g' lim rd wr ∧ n + 1 ≤ n' ∧ q 1 = .pointer (some (mkA n (n * 1024 + 0) 0)) ∧ q 3 = .slice ao i i ∧ q 4 = .int .i64 (i : Int) ∧ OwnX (n + 1) g' n' 1 ao i (bvs (h.take i)) ∧ g' n = ⟨false, [(n * 1024 + 0, bvs h)], none⟩ ∧ (∀ i, i < n → g' i = g i)) ?_ (32 - 0) _ _ ⟨0, none, _, _, _, by omega, rfl, rfl, rfl, by omega, ?_, ?_, ?_, .inl (OwnR.nil _ _ _ _), ?_, ?_⟩
  case refine_2 => simp (disch := omega) only [upd_same, upd_ne]
  case refine_3 => simp (disch := omega) only [upd_same, upd_ne]
  case refine_4 => simp (disch := omega) only [upd_same, upd_ne]; rfl
  case refine_5 => rw [fupd_same]
  case refine_6 => intro i hi; rw [fupd_ne _ _ _ _ (by omega)]
  rintro m fr s ⟨i, ao, q, n', g', hi, rfl, rfl, rfl, hn, q1, q3, q4, hown, p1, p0⟩
  repeat apply W.seq
  apply W.region
  · simp (disch := first | omega | (simp (disch := omega) [ev_tmp, ev_const, get_of, upd_same, upd_ne, q4, Tryd.underlying3, Tryd.underlying83, Tryd.underlying5, Tryd.underlying29, Tryd.underlying32, Tryd.underlying9, Tryd.underlying22]; done) | (apply inK_i64; omega) | (apply inK_u64; omega)) only [op_len, cond_true, cond_false, pick_on, stepC_if, goC_true, goC_false, guard_tt, guard_tf, guard_ft, guard_ff, slot_zero, slot_succ, put_some, runC_cons, runC_nil, stepC_free, dstC_dst, dstC_none, thenC_some, cop_assign, cop_move, cop_conv, cop_bin, cop_un, cop_pick, cop_index, cop_indexAddr, cop_load, cop_store, cop_alloc, cop_box, cop_build, cop_slice, cop_s2a, cop_field, cop_fieldAddr, cop_extract, cop_nilCheck, cop_call, cop_builtin, cop_buildSlice, ev_tmp, ev_const, ev_global, ev_func, put_of, get_of, upd_same, upd_ne, List.toList_toArray, List.map_cons, List.map_nil, some_map, none_map, ti3, ti83, ti5, ti29, ti32, oi_lss, q4]
    with_reducible rfl
  simp only [onN, onB]
  by_cases hi32 : (i : Int) < 32
  case neg =>
    repeat apply W.seq
    refine W.cond (b := false) ?_ ?_
    · simp (disch := omega) only [ev_tmp, get_of, upd_same, upd_ne, hi32, decide_true, decide_false]
    simp only [cond_true, cond_false]
    apply W.exit
    simp only [onN, onB, Nat.beq_refl, cond_true, cond_false, bexit]
    have hi' : i = 32 := by omega
    subst hi'
    rw [List.take_of_length_le (by omega)] at hown
    have F1 := hown.first (lim := lim) (rd := rd) (wr := wr) (k := 32) (by omega) (Nat.le_refl _)
    rw [Nat.mul_one, List.take_of_length_le (by rw [bvs_len]; omega)] at F1
    have CV := fun ρ o => conv_str (P := Tryd.prog) (Γ := EE ax) (ρ := ρ) (o := o) (ti22 ax) (ti9 ax) (ti5 ax) F1
    repeat apply W.seq
    apply W.region
    · simp (disch := first | omega | (simp (disch := omega) [ev_tmp, ev_const, get_of, upd_same, upd_ne, q3, Tryd.underlying3, Tryd.underlying83, Tryd.underlying5, Tryd.underlying29, Tryd.underlying32, Tryd.underlying9, Tryd.underlying22]; done) | (apply inK_i64; omega) | (apply inK_u64; omega)) only [op_len, cond_true, cond_false, pick_on, stepC_if, goC_true, goC_false, guard_tt, guard_tf, guard_ft, guard_ff, slot_zero, slot_succ, put_some, runC_cons, runC_nil, stepC_free, dstC_dst, dstC_none, thenC_some, cop_assign, cop_move, cop_conv, cop_bin, cop_un, cop_pick, cop_index, cop_indexAddr, cop_load, cop_store, cop_alloc, cop_box, cop_build, cop_slice, cop_s2a, cop_field, cop_fieldAddr, cop_extract, cop_nilCheck, cop_call, cop_builtin, cop_buildSlice, ev_tmp, ev_const, ev_global, ev_func, put_of, get_of, upd_same, upd_ne, List.toList_toArray, List.map_cons, List.map_nil, some_map, none_map, ti3, ti83, ti5, ti29, ti32, q3, CV]
      with_reducible rfl
    simp only [onN, onB]
    apply W.ret
    refine ⟨.inr rfl, n', g', rd, ?_, by omega, p0, fun y hy => .inl hy⟩
    simp (disch := omega) only [resC, Tryd.results26, get_of, upd_same]
    all_goals rfl
  repeat apply W.seq
  refine W.cond (b := true) ?_ ?_
  · simp (disch := omega) only [ev_tmp, get_of, upd_same, upd_ne, hi32, decide_true, decide_false]
  simp only [cond_true, cond_false]
  apply W.skip
  simp only [onN, onB]
  have hil : i < 32 := by omega
  have L1 := ld_one (n := n') (lim := lim) (rd := rd) (wr := wr) (ti5 ax) rfl (g := g') (f := n) (u := n * 1024 + 0) (off := 0 + i) (cs := bvs h) (by rw [p1]; exact rowOf_one) (by rw [Nat.zero_add]; exact bvs_get (by omega))
  rw [ins_ge (f := n) _ (by omega)] at L1
  obtain ⟨ao', n2, g2, e1, o1, a1, a2, a3⟩ := OwnX.push (lim := lim) (bytes := 1) (rd := rd) (wr := wr) (v := vb (h.getD i 0)) hown (by omega) (by omega) rfl (by omega)
  repeat apply W.seq
  apply W.block
  repeat apply W.seq
  apply W.region
  · simp (disch := first | omega | (simp (disch := omega) [ev_tmp, ev_const, get_of, upd_same, upd_ne, q1, q3, q4, vb_cells, Tryd.underlying3, Tryd.underlying83, Tryd.underlying5, Tryd.underlying29, Tryd.underlying32, Tryd.underlying9, Tryd.underlying22]; done) | (apply inK_i64; omega) | (apply inK_u64; omega)) only [op_len, cond_true, cond_false, pick_on, stepC_if, goC_true, goC_false, guard_tt, guard_tf, guard_ft, guard_ff, slot_zero, slot_succ, put_some, runC_cons, runC_nil, stepC_free, dstC_dst, dstC_none, thenC_some, cop_assign, cop_move, cop_conv, cop_bin, cop_un, cop_pick, cop_index, cop_indexAddr, cop_load, cop_store, cop_alloc, cop_box, cop_build, cop_slice, cop_s2a, cop_field, cop_fieldAddr, cop_extract, cop_nilCheck, cop_call, cop_builtin, cop_buildSlice, ev_tmp, ev_const, ev_global, ev_func, put_of, get_of, upd_same, upd_ne, List.toList_toArray, List.map_cons, List.map_nil, some_map, none_map, ti3, ti83, ti5, ti29, ti32, q1, q3, q4, natOf_nat, idx_arr (ti24 ax) (ti5 ax) hil, L1, op_append (src_u8 ax), build_one (ti22 ax) (ti5 ax) rfl rfl, app_sl (el_u8 ax), e1]
    with_reducible rfl
  simp only [onN, onB]
  repeat apply W.seq
  apply W.region
  · simp (disch := first | omega | (simp (disch := omega) [ev_tmp, ev_const, get_of, upd_same, upd_ne, q4, Tryd.underlying3, Tryd.underlying83, Tryd.underlying5, Tryd.underlying29, Tryd.underlying32, Tryd.underlying9, Tryd.underlying22]; done) | (apply inK_i64; omega) | (apply inK_u64; omega)) only [op_len, cond_true, cond_false, pick_on, stepC_if, goC_true, goC_false, guard_tt, guard_tf, guard_ft, guard_ff, slot_zero, slot_succ, put_some, runC_cons, runC_nil, stepC_free, dstC_dst, dstC_none, thenC_some, cop_assign, cop_move, cop_conv, cop_bin, cop_un, cop_pick, cop_index, cop_indexAddr, cop_load, cop_store, cop_alloc, cop_box, cop_build, cop_slice, cop_s2a, cop_field, cop_fieldAddr, cop_extract, cop_nilCheck, cop_call, cop_builtin, cop_buildSlice, ev_tmp, ev_const, ev_global, ev_func, put_of, get_of, upd_same, upd_ne, List.toList_toArray, List.map_cons, List.map_nil, some_map, none_map, ti3, ti83, ti5, ti29, ti32, oi_add, q4]
    with_reducible rfl
  simp only [onN, onB]
  refine ⟨32 - (i + 1), by omega, i + 1, ao', _, n2, g2, by omega, rfl, rfl, rfl, by omega, ?_, ?_, ?_, ?_, by rw [a3 _ (by omega)]; exact p1, fun i hi => by rw [a3 _ (by omega)]; exact p0 i hi⟩
  · simp (disch := omega) only [upd_same, upd_ne, q1]
  · simp (disch := omega) only [upd_same, upd_ne]
  · simp (disch := omega) only [upd_same, upd_ne]; rfl
  · have : h.take (i + 1) = h.take i ++ [h.getD i 0] := by
      rw [List.take_add_one, List.getD_eq_getElem?_getD, List.getElem?_eq_getElem (by omega)]; rfl
    rw [this, bvs_app]; exact o1
end Go.Proofs.YtcmfoipnoejmlaaDoor
namespace Go.Proofs.YtcmfoipnoejmlaaDoor
open Go Go.RowKit
set_option linter.unusedSimpArgs false
set_option linter.unusedVariables false
set_option maxRecDepth 100000
/-- the first i bytes turned -/
def xorL (b : List UInt8) (c : UInt8) : Nat → List UInt8
  | 0 => b
  | i + 1 => (xorL b c i).set i ((xorL b c i).getD i 0 ^^^ c)
theorem xorL_len (b : List UInt8) (c : UInt8) : ∀ i, (xorL b c i).length = b.length
  | 0 => rfl
  | i + 1 => by rw [xorL, List.length_set, xorL_len b c i]
def padS (key : List UInt8) (c : UInt8) : List UInt8 := xorL (lay (List.replicate 64 0) 0 key) c 64
theorem padS_len (key : List UInt8) (c : UInt8) (h : key.length ≤ 64) : (padS key c).length = 64 := by
  unfold padS
  rw [xorL_len, lay_len (by simp; omega)]; simp
theorem bvs_set (l : List UInt8) (k : Nat) (x : UInt8) : (bvs l).set k (vb x) = bvs (l.set k x) := by
  unfold bvs
  rw [List.map_set]
set_option maxHeartbeats 1000000 in
theorem pad_run (ax : Axs) (hp : Plain ax) (c : UInt8) (key : ByteArray) (hkey : key.size ≤ 64) (f u : Nat) (n : Nat) (g : Nat → Fam) (lim : Nat) (rd wr : List Nat) (hl : lim ≤ n) (hf : f < n) (hr : rowOf (g f).rows u = some [.string key]) :
    Ret Tryd.prog (EE ax) 54 [vb c, .pointer (some (mkA f u 0))] n g lim rd wr (fun i => i = f) (.string ⟨(padS key.data.toList c).toArray⟩) := by
  have hax : ax 54 = none := hp _ (by decide)
  refine Ret.of (fn := Tryd.f54) 21 hax (fn54 ax) rfl Tryd.ntmps54 (by simp) ?_
  simp (disch := omega) only [ofArgs_cons, ofArgs_nil, Nat.reduceAdd]
  repeat apply W.seq
  apply W.region
  · simp (disch := first | omega | (simp (disch := omega) [ev_tmp, ev_const, get_of, upd_same, upd_ne, Tryd.underlying3, Tryd.underlying83, Tryd.underlying5, Tryd.underlying29, Tryd.underlying32, Tryd.underlying9, Tryd.underlying22]; done) | (apply inK_i64; omega) | (apply inK_u64; omega)) only [op_len, cond_true, cond_false, pick_on, stepC_if, goC_true, goC_false, guard_tt, guard_tf, guard_ft, guard_ff, slot_zero, slot_succ, put_some, runC_cons, runC_nil, stepC_free, dstC_dst, dstC_none, thenC_some, cop_assign, cop_move, cop_conv, cop_bin, cop_un, cop_pick, cop_index, cop_indexAddr, cop_load, cop_store, cop_alloc, cop_box, cop_build, cop_slice, cop_s2a, cop_field, cop_fieldAddr, cop_extract, cop_nilCheck, cop_call, cop_builtin, cop_buildSlice, ev_tmp, ev_const, ev_global, ev_func, put_of, get_of, upd_same, upd_ne, List.toList_toArray, List.map_cons, List.map_nil, some_map, none_map, ti3, ti83, ti5, ti29, ti32]
    with_reducible rfl
  simp only [onN, onB]
  repeat apply W.seq
  apply W.region
  · simp (disch := first | omega | (simp (disch := omega) [ev_tmp, ev_const, get_of, upd_same, upd_ne, Tryd.underlying3, Tryd.underlying83, Tryd.underlying5, Tryd.underlying29, Tryd.underlying32, Tryd.underlying9, Tryd.underlying22]; done) | (apply inK_i64; omega) | (apply inK_u64; omega)) only [op_len, cond_true, cond_false, pick_on, stepC_if, goC_true, goC_false, guard_tt, guard_tf, guard_ft, guard_ff, slot_zero, slot_succ, put_some, runC_cons, runC_nil, stepC_free, dstC_dst, dstC_none, thenC_some, cop_assign, cop_move, cop_conv, cop_bin, cop_un, cop_pick, cop_index, cop_indexAddr, cop_load, cop_store, cop_alloc, cop_box, cop_build, cop_slice, cop_s2a, cop_field, cop_fieldAddr, cop_extract, cop_nilCheck, cop_call, cop_builtin, cop_buildSlice, ev_tmp, ev_const, ev_global, ev_func, put_of, get_of, upd_same, upd_ne, List.toList_toArray, List.map_cons, List.map_nil, some_map, none_map, ti3, ti83, ti5, ti29, ti32, alloc_st (ti31 ax)]
    with_reducible rfl
  simp only [onN, onB]
  generalize hg0 : fupd g n ⟨false, [(n * 1024 + 0, List.replicate 64 (.int .u8 0))], none⟩ = g0
  have p1 : g0 n = ⟨false, [(n * 1024 + 0, bvs (List.replicate 64 0))], none⟩ := by rw [← hg0, fupd_same]; rfl
  have p0 : ∀ i, i < n → g0 i = g i := fun i hi => by rw [← hg0, fupd_ne _ _ _ _ (by omega)]
  clear hg0
  have bd := bounds_all (len := 64) (cap := 64) (Nat.le_refl _)
  have L1 := ld_q (n := n + 1) (ti9 ax) rfl (g := g0) (f := f) (u := u) (off := 0) (cs := [.string key]) (v := .string key) (by rw [p0 _ hf]; exact hr) rfl (by omega)
  have IG := fun l => ins_ge (m := lim) (f := n) l (by omega)
  repeat apply W.seq
  refine W.last_ex (fun fr s => ∃ h g', fr = Fr.of 21 h ∧ s = St (n + 1) g' lim (ins lim rd f) wr ∧ h 0 = vb c ∧ h 4 = .pointer (some (mkA n (n * 1024 + 0) 0)) ∧ g' n = ⟨false, [(n * 1024 + 0, bvs (lay (List.replicate 64 0) 0 key.data.toList))], none⟩ ∧ ∀ i, i < n → g' i = g i) (by kernel_rfl) ?_ ?_
  · by_cases h0 : min key.size 64 = 0
    · have CP := fun s => copy_zero (s := s) (el_u8 ax) rfl (a := some (mkA n (n * 1024 + 0) (0 + 0 * 1))) (len := 64 - 0) (cap := 64 - 0) (b := key) h0
      have hnil : key.data.toList = [] := List.eq_nil_of_length_eq_zero (by rw [str_len]; omega)
      apply Exists.intro
      apply And.intro
      · simp (disch := first | omega | (simp (disch := omega) [ev_tmp, ev_const, get_of, upd_same, upd_ne, Tryd.underlying3, Tryd.underlying83, Tryd.underlying5, Tryd.underlying29, Tryd.underlying32, Tryd.underlying9, Tryd.underlying22]; done) | (apply inK_i64; omega) | (apply inK_u64; omega)) only [op_len, cond_true, cond_false, pick_on, stepC_if, goC_true, goC_false, guard_tt, guard_tf, guard_ft, guard_ff, slot_zero, slot_succ, put_some, runC_cons, runC_nil, stepC_free, dstC_dst, dstC_none, thenC_some, cop_assign, cop_move, cop_conv, cop_bin, cop_un, cop_pick, cop_index, cop_indexAddr, cop_load, cop_store, cop_alloc, cop_box, cop_build, cop_slice, cop_s2a, cop_field, cop_fieldAddr, cop_extract, cop_nilCheck, cop_call, cop_builtin, cop_buildSlice, ev_tmp, ev_const, ev_global, ev_func, put_of, get_of, upd_same, upd_ne, List.toList_toArray, List.map_cons, List.map_nil, some_map, none_map, ti3, ti83, ti5, ti29, ti32, quietL_cons, quietL_one, inner_st, thenL_same, thenL_rd, lastL_some, insAll_nil, insAll_cons, slice_arr1 (ti31 ax) (ti5 ax) (by omega) bd (show (n * 1024 + 0) % 1024 = 0 by omega), L1, op_copy, CP, IG]
        with_reducible rfl
      · refine ⟨_, g0, rfl, rfl, ?_, ?_, ?_, p0⟩
        · simp (disch := omega) only [upd_same, upd_ne]
        · simp (disch := omega) only [upd_same, upd_ne]
        · rw [hnil]; exact p1
    · have CP := copy_str (lim := n + 1) (rd := []) (wr := []) (n := n + 1) (el_u8 ax) rfl (f := n) (u := n * 1024 + 0) (off := 0 + 0 * 1) (len := 64 - 0) (cap := 64 - 0) (b := key) p1 h0 (by rw [bvs_len, List.length_replicate]; omega)
      rw [ins_lt (show n < n + 1 by omega)] at CP
      have hmin : min key.size (64 - 0) = key.size := by omega
      have htk : key.data.toList.take key.size = key.data.toList := List.take_of_length_le (by rw [str_len]; omega)
      rw [hmin, htk] at CP
      apply Exists.intro
      apply And.intro
      · simp (disch := first | omega | (simp (disch := omega) [ev_tmp, ev_const, get_of, upd_same, upd_ne, Tryd.underlying3, Tryd.underlying83, Tryd.underlying5, Tryd.underlying29, Tryd.underlying32, Tryd.underlying9, Tryd.underlying22]; done) | (apply inK_i64; omega) | (apply inK_u64; omega)) only [op_len, cond_true, cond_false, pick_on, stepC_if, goC_true, goC_false, guard_tt, guard_tf, guard_ft, guard_ff, slot_zero, slot_succ, put_some, runC_cons, runC_nil, stepC_free, dstC_dst, dstC_none, thenC_some, cop_assign, cop_move, cop_conv, cop_bin, cop_un, cop_pick, cop_index, cop_indexAddr, cop_load, cop_store, cop_alloc, cop_box, cop_build, cop_slice, cop_s2a, cop_field, cop_fieldAddr, cop_extract, cop_nilCheck, cop_call, cop_builtin, cop_buildSlice, ev_tmp, ev_const, ev_global, ev_func, put_of, get_of, upd_same, upd_ne, List.toList_toArray, List.map_cons, List.map_nil, some_map, none_map, ti3, ti83, ti5, ti29, ti32, quietL_cons, quietL_one, inner_st, thenL_same, thenL_rd, lastL_some, insAll_nil, insAll_cons, slice_arr1 (ti31 ax) (ti5 ax) (by omega) bd (show (n * 1024 + 0) % 1024 = 0 by omega), L1, op_copy, CP, IG]
        with_reducible rfl
      · refine ⟨_, _, rfl, rfl, ?_, ?_, ?_, fun i hi => by rw [fupd_ne _ _ _ _ (by omega)]; exact p0 i hi⟩
        · simp (disch := omega) only [upd_same, upd_ne]
        · simp (disch := omega) only [upd_same, upd_ne]
        · rw [fupd_same]
          have : splice (bvs (List.replicate 64 0)) (0 + 0 * 1) (bvs key.data.toList) = bvs (lay (List.replicate 64 0) 0 key.data.toList) := by
            unfold splice lay
            rw [bvs_len, bvs_app, bvs_app, bvs_take, bvs_drop]
          rw [this]
  rintro fr s ⟨h, g1, rfl, rfl, h0, h4, q1, q0⟩
  simp only [onN, onB]
  have hll : (lay (List.replicate 64 0) 0 key.data.toList).length = 64 := by rw [lay_len (by rw [str_len]; simp; omega)]; simp
  generalize hB : lay (List.replicate 64 0) 0 key.data.toList = B at *
  repeat apply W.seq
  apply W.region
  · simp (disch := first | omega | (simp (disch := omega) [ev_tmp, ev_const, get_of, upd_same, upd_ne, Tryd.underlying3, Tryd.underlying83, Tryd.underlying5, Tryd.underlying29, Tryd.underlying32, Tryd.underlying9, Tryd.underlying22]; done) | (apply inK_i64; omega) | (apply inK_u64; omega)) only [op_len, cond_true, cond_false, pick_on, stepC_if, goC_true, goC_false, guard_tt, guard_tf, guard_ft, guard_ff, slot_zero, slot_succ, put_some, runC_cons, runC_nil, stepC_free, dstC_dst, dstC_none, thenC_some, cop_assign, cop_move, cop_conv, cop_bin, cop_un, cop_pick, cop_index, cop_indexAddr, cop_load, cop_store, cop_alloc, cop_box, cop_build, cop_slice, cop_s2a, cop_field, cop_fieldAddr, cop_extract, cop_nilCheck, cop_call, cop_builtin, cop_buildSlice, ev_tmp, ev_const, ev_global, ev_func, put_of, get_of, upd_same, upd_ne, List.toList_toArray, List.map_cons, List.map_nil, some_map, none_map, ti3, ti83, ti5, ti29, ti32]
    with_reducible rfl
  simp only [onN, onB]
  repeat apply W.seq
  apply W.block
  refine W.loop (fun m fr s => ∃ (i : Nat) (h : Nat → Value) (g' : Nat → Fam), i ≤ 64 ∧ m = 64 - i ∧ fr = Fr.of 21 h ∧ s = St (n + 1) g' lim (ins lim rd f) wr ∧ h 0 = vb c ∧ h 4 = .pointer (some (mkA n (n * 1024 + 0) 0)) ∧ h 9 = .int .i64 (i : Int) ∧ g' n = ⟨false, [(n * 1024 + 0, bvs (xorL B c i))], none⟩ ∧ ∀ i, i < n → g' i = g i) ?_ (64 - 0) _ _ ⟨0, _, _, by omega, rfl, rfl, rfl, ?_, ?_, ?_, q1, q0⟩
  case refine_2 => simp (disch := omega) only [upd_same, upd_ne, h0]
  case refine_3 => simp (disch := omega) only [upd_same, upd_ne, h4]
  case refine_4 => simp (disch := omega) only [upd_same, upd_ne]; rfl
  clear h0 h4 q1 q0
  rintro m fr s ⟨i, h, g', hi, rfl, rfl, rfl, h0, h4, h9, q1, q0⟩
  repeat apply W.seq
  apply W.region
  · simp (disch := first | omega | (simp (disch := omega) [ev_tmp, ev_const, get_of, upd_same, upd_ne, h9, Tryd.underlying3, Tryd.underlying83, Tryd.underlying5, Tryd.underlying29, Tryd.underlying32, Tryd.underlying9, Tryd.underlying22]; done) | (apply inK_i64; omega) | (apply inK_u64; omega)) only [op_len, cond_true, cond_false, pick_on, stepC_if, goC_true, goC_false, guard_tt, guard_tf, guard_ft, guard_ff, slot_zero, slot_succ, put_some, runC_cons, runC_nil, stepC_free, dstC_dst, dstC_none, thenC_some, cop_assign, cop_move, cop_conv, cop_bin, cop_un, cop_pick, cop_index, cop_indexAddr, cop_load, cop_store, cop_alloc, cop_box, cop_build, cop_slice, cop_s2a, cop_field, cop_fieldAddr, cop_extract, cop_nilCheck, cop_call, cop_builtin, cop_buildSlice, ev_tmp, ev_const, ev_global, ev_func, put_of, get_of, upd_same, upd_ne, List.toList_toArray, List.map_cons, List.map_nil, some_map, none_map, ti3, ti83, ti5, ti29, ti32, oi_lss, h9]
    with_reducible rfl
  simp only [onN, onB]
  by_cases hi64 : (i : Int) < 64
  case neg =>
    repeat apply W.seq
    refine W.cond (b := false) ?_ ?_
    · simp (disch := omega) only [ev_tmp, get_of, upd_same, upd_ne, hi64, decide_true, decide_false]
    simp only [cond_true, cond_false]
    apply W.exit
    simp only [onN, onB, Nat.beq_refl, cond_true, cond_false, bexit]
    have hi' : i = 64 := by omega
    subst hi'
    have F1 := first_sl (n := n + 1) (lim := lim) (rd := ins lim rd f) (wr := wr) (g := g') (f := n) (u := n * 1024 + 0) (off := 0 + 0 * 1) (len := 64 - 0) (cap := 64 - 0) (e := 1) (k := 64 - 0) (cs := bvs (xorL B c 64)) (by rw [q1]; exact rowOf_one) (by rw [bvs_len, xorL_len]; omega) (by omega)
    rw [show ((bvs (xorL B c 64)).drop (0 + 0 * 1)).take ((64 - 0) * 1) = bvs (xorL B c 64) from List.take_of_length_le (by rw [show (bvs (xorL B c 64)).drop (0 + 0 * 1) = bvs (xorL B c 64) from rfl, bvs_len, xorL_len]; omega)] at F1
    have CV := fun ρ o => conv_str (P := Tryd.prog) (Γ := EE ax) (ρ := ρ) (o := o) (ti22 ax) (ti9 ax) (ti5 ax) F1
    repeat apply W.seq
    apply W.region
    · simp (disch := first | omega | (simp (disch := omega) [ev_tmp, ev_const, get_of, upd_same, upd_ne, h4, Tryd.underlying3, Tryd.underlying83, Tryd.underlying5, Tryd.underlying29, Tryd.underlying32, Tryd.underlying9, Tryd.underlying22]; done) | (apply inK_i64; omega) | (apply inK_u64; omega)) only [op_len, cond_true, cond_false, pick_on, stepC_if, goC_true, goC_false, guard_tt, guard_tf, guard_ft, guard_ff, slot_zero, slot_succ, put_some, runC_cons, runC_nil, stepC_free, dstC_dst, dstC_none, thenC_some, cop_assign, cop_move, cop_conv, cop_bin, cop_un, cop_pick, cop_index, cop_indexAddr, cop_load, cop_store, cop_alloc, cop_box, cop_build, cop_slice, cop_s2a, cop_field, cop_fieldAddr, cop_extract, cop_nilCheck, cop_call, cop_builtin, cop_buildSlice, ev_tmp, ev_const, ev_global, ev_func, put_of, get_of, upd_same, upd_ne, List.toList_toArray, List.map_cons, List.map_nil, some_map, none_map, ti3, ti83, ti5, ti29, ti32, h4, slice_arr1 (ti31 ax) (ti5 ax) (by omega) bd (show (n * 1024 + 0) % 1024 = 0 by omega), CV]
      with_reducible rfl
    simp only [onN, onB]
    apply W.ret
    refine ⟨.inr rfl, n + 1, g', ins lim rd f, ?_, by omega, q0, fun y hy => ?_⟩
    · simp (disch := omega) only [resC, Tryd.results54, get_of, upd_same]
      rw [← hB]; rfl
    · rcases mem_ins hy with hy | hy
      · exact .inl hy
      · exact .inr hy
  repeat apply W.seq
  refine W.cond (b := true) ?_ ?_
  · simp (disch := omega) only [ev_tmp, get_of, upd_same, upd_ne, hi64, decide_true, decide_false]
  simp only [cond_true, cond_false]
  apply W.skip
  simp only [onN, onB]
  have hil : i < 64 := by omega
  have L1 := ld_one (n := n + 1) (lim := lim) (rd := ins lim rd f) (wr := wr) (ti5 ax) rfl (g := g') (f := n) (u := n * 1024 + 0) (off := 0 + i) (cs := bvs (xorL B c i)) (by rw [q1]; exact rowOf_one) (by rw [Nat.zero_add]; exact bvs_get (by rw [xorL_len]; omega))
  rw [IG] at L1
  have S1 := st_one (n := n + 1) (lim := lim) (rd := ins lim rd f) (wr := wr) (ti5 ax) (f := n) (u := n * 1024 + 0) (off := 0 + i) (v := vb ((xorL B c i).getD i 0 ^^^ c)) q1 (by rw [bvs_len, xorL_len]; omega) rfl
  rw [IG] at S1
  repeat apply W.seq
  apply W.block
  repeat apply W.seq
  apply W.region
  · simp (disch := first | omega | (simp (disch := omega) [ev_tmp, ev_const, get_of, upd_same, upd_ne, h9, Tryd.underlying3, Tryd.underlying83, Tryd.underlying5, Tryd.underlying29, Tryd.underlying32, Tryd.underlying9, Tryd.underlying22]; done) | (apply inK_i64; omega) | (apply inK_u64; omega)) only [op_len, cond_true, cond_false, pick_on, stepC_if, goC_true, goC_false, guard_tt, guard_tf, guard_ft, guard_ff, slot_zero, slot_succ, put_some, runC_cons, runC_nil, stepC_free, dstC_dst, dstC_none, thenC_some, cop_assign, cop_move, cop_conv, cop_bin, cop_un, cop_pick, cop_index, cop_indexAddr, cop_load, cop_store, cop_alloc, cop_box, cop_build, cop_slice, cop_s2a, cop_field, cop_fieldAddr, cop_extract, cop_nilCheck, cop_call, cop_builtin, cop_buildSlice, ev_tmp, ev_const, ev_global, ev_func, put_of, get_of, upd_same, upd_ne, List.toList_toArray, List.map_cons, List.map_nil, some_map, none_map, ti3, ti83, ti5, ti29, ti32, h9]
    with_reducible rfl
  simp only [onN, onB]
  repeat apply W.seq
  apply W.region
  · simp (disch := first | omega | (simp (disch := omega) [ev_tmp, ev_const, get_of, upd_same, upd_ne, h0, h4, Tryd.underlying3, Tryd.underlying83, Tryd.underlying5, Tryd.underlying29, Tryd.underlying32, Tryd.underlying9, Tryd.underlying22]; done) | (apply inK_i64; omega) | (apply inK_u64; omega)) only [op_len, cond_true, cond_false, pick_on, stepC_if, goC_true, goC_false, guard_tt, guard_tf, guard_ft, guard_ff, slot_zero, slot_succ, put_some, runC_cons, runC_nil, stepC_free, dstC_dst, dstC_none, thenC_some, cop_assign, cop_move, cop_conv, cop_bin, cop_un, cop_pick, cop_index, cop_indexAddr, cop_load, cop_store, cop_alloc, cop_box, cop_build, cop_slice, cop_s2a, cop_field, cop_fieldAddr, cop_extract, cop_nilCheck, cop_call, cop_builtin, cop_buildSlice, ev_tmp, ev_const, ev_global, ev_func, put_of, get_of, upd_same, upd_ne, List.toList_toArray, List.map_cons, List.map_nil, some_map, none_map, ti3, ti83, ti5, ti29, ti32, h0, h4, natOf_nat, idx_arr (ti31 ax) (ti5 ax) hil, L1, bb_xor, cells_vb, S1]
    with_reducible rfl
  simp only [onN, onB]
  repeat apply W.seq
  apply W.region
  · simp (disch := first | omega | (simp (disch := omega) [ev_tmp, ev_const, get_of, upd_same, upd_ne, h9, Tryd.underlying3, Tryd.underlying83, Tryd.underlying5, Tryd.underlying29, Tryd.underlying32, Tryd.underlying9, Tryd.underlying22]; done) | (apply inK_i64; omega) | (apply inK_u64; omega)) only [op_len, cond_true, cond_false, pick_on, stepC_if, goC_true, goC_false, guard_tt, guard_tf, guard_ft, guard_ff, slot_zero, slot_succ, put_some, runC_cons, runC_nil, stepC_free, dstC_dst, dstC_none, thenC_some, cop_assign, cop_move, cop_conv, cop_bin, cop_un, cop_pick, cop_index, cop_indexAddr, cop_load, cop_store, cop_alloc, cop_box, cop_build, cop_slice, cop_s2a, cop_field, cop_fieldAddr, cop_extract, cop_nilCheck, cop_call, cop_builtin, cop_buildSlice, ev_tmp, ev_const, ev_global, ev_func, put_of, get_of, upd_same, upd_ne, List.toList_toArray, List.map_cons, List.map_nil, some_map, none_map, ti3, ti83, ti5, ti29, ti32, oi_add, h9]
    with_reducible rfl
  simp only [onN, onB]
  refine ⟨64 - (i + 1), by omega, i + 1, _, _, by omega, rfl, rfl, rfl, ?_, ?_, ?_, ?_, fun i hi => by rw [fupd_ne _ _ _ _ (by omega)]; exact q0 i hi⟩
  · simp (disch := omega) only [upd_same, upd_ne, h0]
  · simp (disch := omega) only [upd_same, upd_ne, h4]
  · simp (disch := omega) only [upd_same, upd_ne]; rfl
  · rw [fupd_same, Nat.zero_add, bvs_set]; rfl
end Go.Proofs.YtcmfoipnoejmlaaDoor
namespace Go.Proofs.YtcmfoipnoejmlaaDoor
open Go Go.RowKit
set_option linter.unusedSimpArgs false
set_option linter.unusedVariables false
set_option maxRecDepth 100000
def keyK (key : List UInt8) : List UInt8 := if 64 < key.length then sha key else key
def macB (key text : List UInt8) : List UInt8 := sha (padS (keyK key) 92 ++ sha (padS (keyK key) 54 ++ text))
theorem macB_len (key text : List UInt8) : (macB key text).length = 32 := sha_len _
theorem keyK_len (key : List UInt8) : (keyK key).length ≤ 64 := by unfold keyK; split; rw [sha_len]; omega; omega
theorem mk_size (l : List UInt8) : (ByteArray.mk l.toArray).size = l.length := List.size_toArray ..
theorem mk_list (l : List UInt8) : (ByteArray.mk l.toArray).data.toList = l := List.toList_toArray ..
theorem mk_back (b : ByteArray) : ByteArray.mk b.data.toList.toArray = b := by cases b; rfl
set_option maxHeartbeats 2000000 in
theorem mac_run (ax : Axs) (hp : Plain ax) (hC : ax 53 = some hComp) (key text : ByteArray) (hkey : key.size < 1000000000) (htext : text.size < 1000000000) (n : Nat) (g : Nat → Fam) (lim : Nat) (rd wr : List Nat) (hl : lim ≤ n) (hG : 1 < n) (hk : rowOf (g 1).rows (1 * 1024) = some (wvs KW)) :
    Ret Tryd.prog (EE ax) 24 [.string key, .string text] n g lim rd wr RG (.string ⟨(macB key.data.toList text.data.toList).toArray⟩) := by
  have hax : ax 24 = none := hp _ (by decide)
  refine Ret.of (fn := Tryd.f24) 35 hax (fn24 ax) rfl Tryd.ntmps24 (by simp) ?_
  simp (disch := omega) only [ofArgs_cons, ofArgs_nil, Nat.reduceAdd]
  have IG := fun l => ins_ge (m := lim) (f := n) l (by omega)
  repeat apply W.seq
  apply W.region
  · simp (disch := first | omega | (simp (disch := omega) [ev_tmp, ev_const, get_of, upd_same, upd_ne, Tryd.underlying3, Tryd.underlying83, Tryd.underlying5, Tryd.underlying29, Tryd.underlying32, Tryd.underlying9, Tryd.underlying22]; done) | (apply inK_i64; omega) | (apply inK_u64; omega)) only [op_len, cond_true, cond_false, pick_on, stepC_if, goC_true, goC_false, guard_tt, guard_tf, guard_ft, guard_ff, slot_zero, slot_succ, put_some, runC_cons, runC_nil, stepC_free, dstC_dst, dstC_none, thenC_some, cop_assign, cop_move, cop_conv, cop_bin, cop_un, cop_pick, cop_index, cop_indexAddr, cop_load, cop_store, cop_alloc, cop_box, cop_build, cop_slice, cop_s2a, cop_field, cop_fieldAddr, cop_extract, cop_nilCheck, cop_call, cop_builtin, cop_buildSlice, ev_tmp, ev_const, ev_global, ev_func, put_of, get_of, upd_same, upd_ne, List.toList_toArray, List.map_cons, List.map_nil, some_map, none_map, ti3, ti83, ti5, ti29, ti32, List.map_toArray, List.nil_append, List.cons_append, List.append_nil, box_st, cells_str]
    with_reducible rfl
  simp only [onN, onB]
  generalize hg0 : fupd g n ⟨false, [(n * 1024 + 0, [Value.string key])], none⟩ = g0
  have p1 : g0 n = ⟨false, [(n * 1024 + 0, [.string key])], none⟩ := by rw [← hg0, fupd_same]
  have p0 : ∀ i, i < n → g0 i = g i := fun i hi => by rw [← hg0, fupd_ne _ _ _ _ (by omega)]
  clear hg0
  have bd := bounds_all (len := 32) (cap := 32) (Nat.le_refl _)
  apply W.seq
  refine W.cut (fun fr s => ∃ (h : Nat → Value) (n1 : Nat) (g1 : Nat → Fam) (rd1 : List Nat) (k : ByteArray), fr = Fr.of 35 h ∧ s = St n1 g1 lim rd1 wr ∧ n + 1 ≤ n1 ∧ k.data.toList = keyK key.data.toList ∧ h 1 = .string text ∧ h 2 = .pointer (some (mkA n (n * 1024 + 0) 0)) ∧ g1 n = ⟨false, [(n * 1024 + 0, [.string k])], none⟩ ∧ (∀ i, i < n → g1 i = g i) ∧ (∀ x, x ∈ rd1 → x ∈ rd ∨ (RG x ∧ x < lim))) ?_ ?_
  · have L1 := ld_one (n := n + 1) (lim := lim) (rd := rd) (wr := wr) (ti9 ax) rfl (g := g0) (f := n) (u := n * 1024 + 0) (off := 0) (cs := [.string key]) (v := .string key) (by rw [p1]; exact rowOf_one) rfl
    rw [IG] at L1
    repeat apply W.seq
    apply W.region
    · simp (disch := first | omega | (simp (disch := omega) [ev_tmp, ev_const, get_of, upd_same, upd_ne, Tryd.underlying3, Tryd.underlying83, Tryd.underlying5, Tryd.underlying29, Tryd.underlying32, Tryd.underlying9, Tryd.underlying22]; done) | (apply inK_i64; omega) | (apply inK_u64; omega)) only [op_len, cond_true, cond_false, pick_on, stepC_if, goC_true, goC_false, guard_tt, guard_tf, guard_ft, guard_ff, slot_zero, slot_succ, put_some, runC_cons, runC_nil, stepC_free, dstC_dst, dstC_none, thenC_some, cop_assign, cop_move, cop_conv, cop_bin, cop_un, cop_pick, cop_index, cop_indexAddr, cop_load, cop_store, cop_alloc, cop_box, cop_build, cop_slice, cop_s2a, cop_field, cop_fieldAddr, cop_extract, cop_nilCheck, cop_call, cop_builtin, cop_buildSlice, ev_tmp, ev_const, ev_global, ev_func, put_of, get_of, upd_same, upd_ne, List.toList_toArray, List.map_cons, List.map_nil, some_map, none_map, ti3, ti83, ti5, ti29, ti32, List.map_toArray, List.nil_append, List.cons_append, List.append_nil, L1, len_str (ti9 ax), oi_gtr]
      with_reducible rfl
    simp only [onN, onB]
    by_cases hbig : (64 : Int) < key.size
    case neg =>
      repeat apply W.seq
      refine W.cond (b := false) ?_ ?_
      · simp (disch := omega) only [ev_tmp, get_of, upd_same, upd_ne, hbig, decide_true, decide_false]
      simp only [cond_true, cond_false]
      apply W.skip
      refine ⟨by first | rfl | trivial, _, n + 1, g0, rd, key, rfl, rfl, by omega, ?_, ?_, ?_, p1, p0, fun x hx => .inl hx⟩
      · unfold keyK; rw [if_neg (by rw [str_len]; omega)]
      · simp (disch := omega) only [upd_same, upd_ne]
      · simp (disch := omega) only [upd_same, upd_ne]
    repeat apply W.seq
    refine W.cond (b := true) ?_ ?_
    · simp (disch := omega) only [ev_tmp, get_of, upd_same, upd_ne, hbig, decide_true, decide_false]
    simp only [cond_true, cond_false]
    have CB := fun ρ o => conv_bytes (P := Tryd.prog) (Γ := EE ax) (ρ := ρ) (o := o) (n := n + 1) (g := g0) (lim := lim) (rd := rd) (wr := wr) (x := key) (ti9 ax) (ti22 ax) (ti5 ax) (by omega)
    generalize hgb : fupd g0 (n + 1) ⟨false, [((n + 1) * 1024 + 2, byteVs key)], none⟩ = gb at CB
    have b1 : gb n = ⟨false, [(n * 1024 + 0, [.string key])], none⟩ := by rw [← hgb, fupd_ne _ _ _ _ (by omega)]; exact p1
    have b0 : ∀ i, i < n → gb i = g i := fun i hi => by rw [← hgb, fupd_ne _ _ _ _ (by omega)]; exact p0 i hi
    have hba : ByteArg gb (n + 1 + 1) (some (mkA (n + 1) ((n + 1) * 1024 + 2) 0)) key.size key.data.toList := by
      refine ⟨str_len key, .inr ⟨n + 1, (n + 1) * 1024 + 2, 0, byteVs key, rfl, by omega, ?_, ?_, ?_⟩⟩
      · rw [← hgb, fupd_same]; exact rowOf_one
      · rw [byteVs_eq, bvs_len, str_len]; omega
      · rw [byteVs_eq, List.drop_zero, List.take_of_length_le (by rw [bvs_len, str_len]; omega)]
    clear hgb
    obtain ⟨n2, g2, rd2, e2, a1, a2, a3⟩ := hsum_run ax hp hC (some (mkA (n + 1) ((n + 1) * 1024 + 2) 0)) key.size key.size key.data.toList (by omega) (n + 1 + 1) gb lim rd wr (by omega) hba (by omega) (by rw [b0 _ hG]; exact hk)
    have S1 := st_all (n := n2 + 1) (lim := lim) (rd := rd2) (wr := wr) (ti24 ax) (g := fupd g2 n2 ⟨false, [(n2 * 1024 + 0, List.replicate 32 (.int .u8 0))], none⟩) (f := n2) (u := n2 * 1024 + 0) (vs := bvs (sha key.data.toList)) (fupd_same _ _ _) (by rw [bvs_len, sha_len]) (by simp) (bvs_one _)
    rw [fupd_fupd, ins_ge (f := n2) _ (by omega)] at S1
    repeat apply W.seq
    apply W.region
    · simp (disch := first | omega | (simp (disch := omega) [ev_tmp, ev_const, get_of, upd_same, upd_ne, Tryd.underlying3, Tryd.underlying83, Tryd.underlying5, Tryd.underlying29, Tryd.underlying32, Tryd.underlying9, Tryd.underlying22]; done) | (apply inK_i64; omega) | (apply inK_u64; omega)) only [op_len, cond_true, cond_false, pick_on, stepC_if, goC_true, goC_false, guard_tt, guard_tf, guard_ft, guard_ff, slot_zero, slot_succ, put_some, runC_cons, runC_nil, stepC_free, dstC_dst, dstC_none, thenC_some, cop_assign, cop_move, cop_conv, cop_bin, cop_un, cop_pick, cop_index, cop_indexAddr, cop_load, cop_store, cop_alloc, cop_box, cop_build, cop_slice, cop_s2a, cop_field, cop_fieldAddr, cop_extract, cop_nilCheck, cop_call, cop_builtin, cop_buildSlice, ev_tmp, ev_const, ev_global, ev_func, put_of, get_of, upd_same, upd_ne, List.toList_toArray, List.map_cons, List.map_nil, some_map, none_map, ti3, ti83, ti5, ti29, ti32, List.map_toArray, List.nil_append, List.cons_append, List.append_nil, L1, CB, e2, alloc_st (ti24 ax), cells_agg, S1]
      with_reducible rfl
    simp only [onN, onB]
    generalize hg3 : fupd g2 n2 ⟨false, [(n2 * 1024 + 0, bvs (sha key.data.toList))], none⟩ = g3
    have c1 : g3 n = ⟨false, [(n * 1024 + 0, [.string key])], none⟩ := by rw [← hg3, fupd_ne _ _ _ _ (by omega), a2 _ (by omega)]; exact b1
    have c2 : g3 n2 = ⟨false, [(n2 * 1024 + 0, bvs (sha key.data.toList))], none⟩ := by rw [← hg3, fupd_same]
    have c0 : ∀ i, i < n → g3 i = g i := fun i hi => by rw [← hg3, fupd_ne _ _ _ _ (by omega), a2 _ (by omega)]; exact b0 i hi
    clear hg3 S1
    have F1 := first_sl (n := n2 + 1) (lim := lim) (rd := rd2) (wr := wr) (g := g3) (f := n2) (u := n2 * 1024 + 0) (off := 0 + 0 * 1) (len := 32 - 0) (cap := 32 - 0) (e := 1) (k := 32 - 0) (cs := bvs (sha key.data.toList)) (by rw [c2]; exact rowOf_one) (by rw [bvs_len, sha_len]; omega) (by omega)
    rw [show ((bvs (sha key.data.toList)).drop (0 + 0 * 1)).take ((32 - 0) * 1) = bvs (sha key.data.toList) from List.take_of_length_le (by rw [show (bvs (sha key.data.toList)).drop (0 + 0 * 1) = bvs (sha key.data.toList) from rfl, bvs_len, sha_len]; omega)] at F1
    have CV := fun ρ o => conv_str (P := Tryd.prog) (Γ := EE ax) (ρ := ρ) (o := o) (ti22 ax) (ti9 ax) (ti5 ax) F1
    have S2 := st_one (n := n2 + 1) (lim := lim) (rd := rd2) (wr := wr) (ti9 ax) (f := n) (u := n * 1024 + 0) (off := 0) (v := .string ⟨(sha key.data.toList).toArray⟩) c1 (by simp) rfl
    rw [IG] at S2
    repeat apply W.seq
    apply W.region
    · simp (disch := first | omega | (simp (disch := omega) [ev_tmp, ev_const, get_of, upd_same, upd_ne, Tryd.underlying3, Tryd.underlying83, Tryd.underlying5, Tryd.underlying29, Tryd.underlying32, Tryd.underlying9, Tryd.underlying22]; done) | (apply inK_i64; omega) | (apply inK_u64; omega)) only [op_len, cond_true, cond_false, pick_on, stepC_if, goC_true, goC_false, guard_tt, guard_tf, guard_ft, guard_ff, slot_zero, slot_succ, put_some, runC_cons, runC_nil, stepC_free, dstC_dst, dstC_none, thenC_some, cop_assign, cop_move, cop_conv, cop_bin, cop_un, cop_pick, cop_index, cop_indexAddr, cop_load, cop_store, cop_alloc, cop_box, cop_build, cop_slice, cop_s2a, cop_field, cop_fieldAddr, cop_extract, cop_nilCheck, cop_call, cop_builtin, cop_buildSlice, ev_tmp, ev_const, ev_global, ev_func, put_of, get_of, upd_same, upd_ne, List.toList_toArray, List.map_cons, List.map_nil, some_map, none_map, ti3, ti83, ti5, ti29, ti32, List.map_toArray, List.nil_append, List.cons_append, List.append_nil, slice_arr1 (ti24 ax) (ti5 ax) (by omega) bd (show (n2 * 1024 + 0) % 1024 = 0 by omega), CV, cells_str, S2]
      with_reducible rfl
    simp only [onN, onB]
    refine ⟨by first | rfl | trivial, _, n2 + 1, _, rd2, ⟨(sha key.data.toList).toArray⟩, rfl, rfl, by omega, ?_, ?_, ?_, fupd_same _ _ _, fun i hi => by rw [fupd_ne _ _ _ _ (by omega)]; exact c0 i hi, fun x hx => ?_⟩
    · unfold keyK; rw [if_pos (by rw [str_len]; omega), mk_list]
    · simp (disch := omega) only [upd_same, upd_ne]
    · simp (disch := omega) only [upd_same, upd_ne]
    · rcases a3 x hx with h | ⟨h | ⟨⟨a, h1, h2⟩, _⟩, hl2⟩
      · exact .inl h
      · exact .inr ⟨h, hl2⟩
      · simp only [Option.some.injEq] at h1
        subst h1
        rw [block_mk] at h2
        omega
  clear p1 p0
  rintro fr s ⟨h, n1, g1, rd1, k, rfl, rfl, hn1, hkk, h1, h2, p1, p0, hrd1⟩
  have hks : k.size ≤ 64 := by rw [← str_len, hkk]; exact keyK_len _
  generalize hK : keyK key.data.toList = K at *
  repeat apply W.seq
  apply W.region
  · simp (disch := first | omega | (simp (disch := omega) [ev_tmp, ev_const, get_of, upd_same, upd_ne, h2, Tryd.underlying3, Tryd.underlying83, Tryd.underlying5, Tryd.underlying29, Tryd.underlying32, Tryd.underlying9, Tryd.underlying22]; done) | (apply inK_i64; omega) | (apply inK_u64; omega)) only [op_len, cond_true, cond_false, pick_on, stepC_if, goC_true, goC_false, guard_tt, guard_tf, guard_ft, guard_ff, slot_zero, slot_succ, put_some, runC_cons, runC_nil, stepC_free, dstC_dst, dstC_none, thenC_some, cop_assign, cop_move, cop_conv, cop_bin, cop_un, cop_pick, cop_index, cop_indexAddr, cop_load, cop_store, cop_alloc, cop_box, cop_build, cop_slice, cop_s2a, cop_field, cop_fieldAddr, cop_extract, cop_nilCheck, cop_call, cop_builtin, cop_buildSlice, ev_tmp, ev_const, ev_global, ev_func, put_of, get_of, upd_same, upd_ne, List.toList_toArray, List.map_cons, List.map_nil, some_map, none_map, ti3, ti83, ti5, ti29, ti32, List.map_toArray, List.nil_append, List.cons_append, List.append_nil, cop_makeFunc, h2]
    with_reducible rfl
  simp only [onN, onB]
  obtain ⟨n2, g2, rd2, e2, a1, a2, a3⟩ := begin_run ax hp n1 g1 lim rd1 wr (by omega)
  obtain ⟨n3, g3, rd3, e3, b1, b2, b3⟩ := pad_run ax hp 54 k hks n (n * 1024 + 0) n2 g2 lim rd2 wr (by omega) (by omega) (by rw [a2 _ (by omega), p1]; exact rowOf_one)
  obtain ⟨st4, bl4, hR4, n4, g4, rd4, e4, d1, d2, d3⟩ := add_run ax hp hC [] IVW (List.replicate 64 0) (Repr.start _ rfl) ⟨(padS k.data.toList 54).toArray⟩ (by rw [mk_size, padS_len _ _ (by rw [str_len]; exact hks)]; simp) n3 g3 lim rd3 wr (by omega) (by omega) (by rw [b2 _ (by omega), a2 _ (by omega), p0 _ hG]; exact hk)
  rw [mk_list, List.nil_append] at hR4 e4
  rw [List.length_nil] at e4
  have hpl : (padS k.data.toList 54).length = 64 := padS_len _ _ (by rw [str_len]; exact hks)
  obtain ⟨st5, bl5, hR5, n5, g5, rd5, e5, f1, f2, f3⟩ := add_run ax hp hC _ st4 bl4 hR4 text (by rw [hpl]; omega) n4 g4 lim rd4 wr (by omega) (by omega) (by rw [d2 _ (by omega), b2 _ (by omega), a2 _ (by omega), p0 _ hG]; exact hk)
  obtain ⟨n6, g6, rd6, e6, i1, i2, i3⟩ := ssum_run ax hp hC _ st5 bl5 hR5 (by rw [List.length_append, hpl, str_len]; omega) n5 g5 lim rd5 wr (by omega) (by omega) (by rw [f2 _ (by omega), d2 _ (by omega), b2 _ (by omega), a2 _ (by omega), p0 _ hG]; exact hk)
  generalize hS1 : sha (padS k.data.toList 54 ++ text.data.toList) = S1 at *
  have hSl : S1.length = 32 := by rw [← hS1]; exact sha_len _
  have c54 : Value.int .u8 54 = vb 54 := rfl
  have T1 := st_all (n := n6 + 1) (lim := lim) (rd := rd6) (wr := wr) (ti24 ax) (g := fupd g6 n6 ⟨false, [(n6 * 1024 + 0, List.replicate 32 (.int .u8 0))], none⟩) (f := n6) (u := n6 * 1024 + 0) (vs := bvs S1) (fupd_same _ _ _) (by rw [bvs_len, hSl]) (by simp) (bvs_one _)
  rw [fupd_fupd, ins_ge (f := n6) _ (by omega)] at T1
  repeat apply W.seq
  apply W.region
  · simp (disch := first | omega | (simp (disch := omega) [ev_tmp, ev_const, get_of, upd_same, upd_ne, h1, Tryd.underlying3, Tryd.underlying83, Tryd.underlying5, Tryd.underlying29, Tryd.underlying32, Tryd.underlying9, Tryd.underlying22]; done) | (apply inK_i64; omega) | (apply inK_u64; omega)) only [op_len, cond_true, cond_false, pick_on, stepC_if, goC_true, goC_false, guard_tt, guard_tf, guard_ft, guard_ff, slot_zero, slot_succ, put_some, runC_cons, runC_nil, stepC_free, dstC_dst, dstC_none, thenC_some, cop_assign, cop_move, cop_conv, cop_bin, cop_un, cop_pick, cop_index, cop_indexAddr, cop_load, cop_store, cop_alloc, cop_box, cop_build, cop_slice, cop_s2a, cop_field, cop_fieldAddr, cop_extract, cop_nilCheck, cop_call, cop_builtin, cop_buildSlice, ev_tmp, ev_const, ev_global, ev_func, put_of, get_of, upd_same, upd_ne, List.toList_toArray, List.map_cons, List.map_nil, some_map, none_map, ti3, ti83, ti5, ti29, ti32, List.map_toArray, List.nil_append, List.cons_append, List.append_nil, e2, cop_callv, opCall_func, c54, e3, e4, h1, e5, e6, alloc_st (ti24 ax), cells_agg, T1]
    with_reducible rfl
  simp only [onN, onB]
  generalize hg7 : fupd g6 n6 ⟨false, [(n6 * 1024 + 0, bvs S1)], none⟩ = g7
  have u1 : g7 n = ⟨false, [(n * 1024 + 0, [.string k])], none⟩ := by rw [← hg7, fupd_ne _ _ _ _ (by omega), i2 _ (by omega), f2 _ (by omega), d2 _ (by omega), b2 _ (by omega), a2 _ (by omega)]; exact p1
  have u2 : g7 n6 = ⟨false, [(n6 * 1024 + 0, bvs S1)], none⟩ := by rw [← hg7, fupd_same]
  have u0 : ∀ i, i < n → g7 i = g i := fun i hi => by rw [← hg7, fupd_ne _ _ _ _ (by omega), i2 _ (by omega), f2 _ (by omega), d2 _ (by omega), b2 _ (by omega), a2 _ (by omega)]; exact p0 i hi
  have hrd6 : ∀ x, x ∈ rd6 → x ∈ rd ∨ (RG x ∧ x < lim) := by
    intro x hx
    rcases i3 x hx with hx | hx
    · rcases f3 x hx with hx | hx
      · rcases d3 x hx with hx | hx
        · rcases b3 x hx with hx | ⟨rfl, hx⟩
          · rcases a3 x hx with hx | hx
            · exact hrd1 x hx
            · exact hx.1.elim
          · omega
        · exact .inr hx
      · exact .inr hx
    · exact .inr hx
  clear hg7 T1 e2 e3 e4 e5 e6 a3 b3 d3 f3 i3 hR4 hR5 p1 p0 hrd1
  -- the outer hash
  obtain ⟨m2, G2, r2, E2, A1, A2, A3⟩ := begin_run ax hp (n6 + 1) g7 (n6 + 1) [] [] (Nat.le_refl _)
  have Q2 : ∀ y, y ∈ r2 → y < n6 + 1 := fun y hy => by rcases A3 y hy with h | h; simp at h; exact h.1.elim
  obtain ⟨m3, G3, r3, E3, B1, B2, B3⟩ := pad_run ax hp 92 k hks n (n * 1024 + 0) m2 G2 m2 [] [] (Nat.le_refl _) (by omega) (by rw [A2 _ (by omega), u1]; exact rowOf_one)
  have Q3 : ∀ y, y ∈ r3 → y < n6 + 1 := fun y hy => by
    rcases B3 y hy with h | h
    · simp at h
    · omega
  obtain ⟨st4', bl4', hR4', m4, G4, r4, E4, D1, D2, D3⟩ := add_run ax hp hC [] IVW (List.replicate 64 0) (Repr.start _ rfl) ⟨(padS k.data.toList 92).toArray⟩ (by rw [mk_size, padS_len _ _ (by rw [str_len]; exact hks)]; simp) m3 G3 m3 [] [] (Nat.le_refl _) (by omega) (by rw [B2 _ (by omega), A2 _ (by omega), u0 _ hG]; exact hk)
  rw [mk_list, List.nil_append] at hR4' E4
  rw [List.length_nil] at E4
  have hpl2 : (padS k.data.toList 92).length = 64 := padS_len _ _ (by rw [str_len]; exact hks)
  have Q4 : ∀ y, y ∈ r4 → y < n6 + 1 := fun y hy => by
    rcases D3 y hy with h | h
    · simp at h
    · have := h.1; unfold RG at this; omega
  have F1 := first_slq (n := m4) (lim := m4) (rd := []) (wr := []) (g := G4) (f := n6) (u := n6 * 1024 + 0) (off := 0 + 0 * 1) (len := 32 - 0) (cap := 32 - 0) (e := 1) (k := 32 - 0) (cs := bvs S1) (by rw [D2 _ (by omega), B2 _ (by omega), A2 _ (by omega), u2]; exact rowOf_one) (by rw [bvs_len, hSl]; omega) (by omega)
  rw [ins_lt (show n6 < m4 by omega), show ((bvs S1).drop (0 + 0 * 1)).take ((32 - 0) * 1) = bvs S1 from List.take_of_length_le (by rw [show (bvs S1).drop (0 + 0 * 1) = bvs S1 from rfl, bvs_len, hSl]; omega)] at F1
  have CV := fun ρ o => conv_str (P := Tryd.prog) (Γ := EE ax) (ρ := ρ) (o := o) (ti22 ax) (ti9 ax) (ti5 ax) F1
  obtain ⟨st5', bl5', hR5', m5, G5, r5, E5, H1, H2, H3⟩ := add_run ax hp hC _ st4' bl4' hR4' ⟨S1.toArray⟩ (by rw [hpl2, mk_size, hSl]; omega) m4 G4 m4 [] [] (Nat.le_refl _) (by omega) (by rw [D2 _ (by omega), B2 _ (by omega), A2 _ (by omega), u0 _ hG]; exact hk)
  rw [mk_list] at hR5' E5
  have Q5 : ∀ y, y ∈ r5 → y < n6 + 1 := fun y hy => by
    rcases H3 y hy with h | h
    · simp at h
    · have := h.1; unfold RG at this; omega
  obtain ⟨m6, G6, r6, E6, I1, I2, I3⟩ := ssum_run ax hp hC _ st5' bl5' hR5' (by rw [List.length_append, hpl2, hSl]; omega) m5 G5 m5 [] [] (Nat.le_refl _) (by omega) (by rw [H2 _ (by omega), D2 _ (by omega), B2 _ (by omega), A2 _ (by omega), u0 _ hG]; exact hk)
  have Q6 : ∀ y, y ∈ r6 → y < n6 + 1 := fun y hy => by
    rcases I3 y hy with h | h
    · simp at h
    · have := h.1; unfold RG at this; omega
  have hmac : sha (padS k.data.toList 92 ++ S1) = macB key.data.toList text.data.toList := by
    unfold macB
    rw [hK, ← hkk, hS1]
  rw [hmac] at E6
  have T2 := st_allq (n := m6 + 1) (ti24 ax) (g := fupd G6 m6 ⟨false, [(m6 * 1024 + 0, List.replicate 32 (.int .u8 0))], none⟩) (f := m6) (u := m6 * 1024 + 0) (vs := bvs (macB key.data.toList text.data.toList)) (fupd_same _ _ _) (by rw [bvs_len, macB_len]) (by simp) (bvs_one _) (by omega)
  rw [fupd_fupd] at T2
  have c92 : Value.int .u8 92 = vb 92 := rfl
  have IM := fun l => ins_ge (m := lim) (f := m6) l (by omega)
  have IN := fun l => ins_ge (m := lim) (f := n6) l (by omega)
  repeat apply W.seq
  apply W.last
  · kernel_rfl
  · simp (disch := first | omega | (simp (disch := omega) [ev_tmp, ev_const, get_of, upd_same, upd_ne, Tryd.underlying3, Tryd.underlying83, Tryd.underlying5, Tryd.underlying29, Tryd.underlying32, Tryd.underlying9, Tryd.underlying22]; done) | (apply inK_i64; omega) | (apply inK_u64; omega)) only [op_len, cond_true, cond_false, pick_on, stepC_if, goC_true, goC_false, guard_tt, guard_tf, guard_ft, guard_ff, slot_zero, slot_succ, put_some, runC_cons, runC_nil, stepC_free, dstC_dst, dstC_none, thenC_some, cop_assign, cop_move, cop_conv, cop_bin, cop_un, cop_pick, cop_index, cop_indexAddr, cop_load, cop_store, cop_alloc, cop_box, cop_build, cop_slice, cop_s2a, cop_field, cop_fieldAddr, cop_extract, cop_nilCheck, cop_call, cop_builtin, cop_buildSlice, ev_tmp, ev_const, ev_global, ev_func, put_of, get_of, upd_same, upd_ne, List.toList_toArray, List.map_cons, List.map_nil, some_map, none_map, ti3, ti83, ti5, ti29, ti32, quietL_cons, quietL_one, inner_st, thenL_same, thenL_rd, lastL_some, insAll_nil, insAll_cons, List.map_toArray, List.nil_append, List.cons_append, List.append_nil, E2, cop_callv, opCall_func, c92, E3, E4, slice_arr1 (ti24 ax) (ti5 ax) (by omega) bd (show (n6 * 1024 + 0) % 1024 = 0 by omega), CV, E5, E6, thenL_gen Q2, thenL_gen Q3, thenL_gen Q4, thenL_gen Q5, thenL_gen Q6, alloc_st (ti24 ax), cells_agg, T2, IM, IN]
    with_reducible rfl
  simp only [onN, onB]
  have F2 := fun rd => first_sl (n := m6 + 1) (lim := lim) (rd := rd) (wr := wr) (g := fupd G6 m6 ⟨false, [(m6 * 1024 + 0, bvs (macB key.data.toList text.data.toList))], none⟩) (f := m6) (u := m6 * 1024 + 0) (off := 0 + 0 * 1) (len := 32 - 0) (cap := 32 - 0) (e := 1) (k := 32 - 0) (cs := bvs (macB key.data.toList text.data.toList)) (by rw [fupd_same]; exact rowOf_one) (by rw [bvs_len, macB_len]; omega) (by omega)
  have F3 := fun rd => (F2 rd).trans (by rw [show ((bvs (macB key.data.toList text.data.toList)).drop (0 + 0 * 1)).take ((32 - 0) * 1) = bvs (macB key.data.toList text.data.toList) from List.take_of_length_le (by rw [show (bvs (macB key.data.toList text.data.toList)).drop (0 + 0 * 1) = bvs (macB key.data.toList text.data.toList) from rfl, bvs_len, macB_len]; omega)])
  have CW := fun rd ρ o => conv_str (P := Tryd.prog) (Γ := EE ax) (ρ := ρ) (o := o) (ti22 ax) (ti9 ax) (ti5 ax) (F3 rd)
  repeat apply W.seq
  apply W.region
  · simp (disch := first | omega | (simp (disch := omega) [ev_tmp, ev_const, get_of, upd_same, upd_ne, Tryd.underlying3, Tryd.underlying83, Tryd.underlying5, Tryd.underlying29, Tryd.underlying32, Tryd.underlying9, Tryd.underlying22]; done) | (apply inK_i64; omega) | (apply inK_u64; omega)) only [op_len, cond_true, cond_false, pick_on, stepC_if, goC_true, goC_false, guard_tt, guard_tf, guard_ft, guard_ff, slot_zero, slot_succ, put_some, runC_cons, runC_nil, stepC_free, dstC_dst, dstC_none, thenC_some, cop_assign, cop_move, cop_conv, cop_bin, cop_un, cop_pick, cop_index, cop_indexAddr, cop_load, cop_store, cop_alloc, cop_box, cop_build, cop_slice, cop_s2a, cop_field, cop_fieldAddr, cop_extract, cop_nilCheck, cop_call, cop_builtin, cop_buildSlice, ev_tmp, ev_const, ev_global, ev_func, put_of, get_of, upd_same, upd_ne, List.toList_toArray, List.map_cons, List.map_nil, some_map, none_map, ti3, ti83, ti5, ti29, ti32, List.map_toArray, List.nil_append, List.cons_append, List.append_nil, slice_arr1 (ti24 ax) (ti5 ax) (by omega) bd (show (m6 * 1024 + 0) % 1024 = 0 by omega), CW]
    with_reducible rfl
  simp only [onN, onB]
  apply W.ret
  refine ⟨.inr rfl, m6 + 1, fupd G6 m6 ⟨false, [(m6 * 1024 + 0, bvs (macB key.data.toList text.data.toList))], none⟩, insAll lim (insAll lim (insAll lim (insAll lim (insAll lim rd6 r2) r3) r4) r5) r6, ?_, by omega, fun i hi => by rw [fupd_ne _ _ _ _ (by omega), I2 _ (by omega), H2 _ (by omega), D2 _ (by omega), B2 _ (by omega), A2 _ (by omega)]; exact u0 i hi, ?_⟩
  · simp (disch := omega) only [resC, Tryd.results24, get_of, upd_same]
    all_goals rfl
  · intro y hy
    have hG' : ∀ {l : List Nat} {m : Nat}, (∀ x, x ∈ l → x ∈ ([] : List Nat) ∨ (RG x ∧ x < m)) → y ∈ l → RG y := fun hh hm => by
      rcases hh y hm with h | h
      · simp at h
      · exact h.1
    rcases insAll_mem rfl y hy with hy | ⟨hy, hyl⟩
    · rcases insAll_mem rfl y hy with hy | ⟨hy, hyl⟩
      · rcases insAll_mem rfl y hy with hy | ⟨hy, hyl⟩
        · rcases insAll_mem rfl y hy with hy | ⟨hy, hyl⟩
          · rcases insAll_mem rfl y hy with hy | ⟨hy, hyl⟩
            · exact hrd6 y hy
            · rcases A3 y hy with h | h
              · simp at h
              · exact h.1.elim
          · rcases B3 y hy with h | ⟨rfl, h⟩
            · simp at h
            · omega
        · exact .inr ⟨hG' D3 hy, hyl⟩
      · exact .inr ⟨hG' H3 hy, hyl⟩
    · exact .inr ⟨hG' I3 hy, hyl⟩
end Go.Proofs.YtcmfoipnoejmlaaDoor
