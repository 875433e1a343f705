/- The code of the hash layer in the plain machine, first part: rotations, mix, Equal. -/
import Derived.Test.YtcmfoipnoejmlaaDoorHEnv
namespace Go.Proofs.YtcmfoipnoejmlaaDoor
open Go Go.RowKit
set_option linter.unusedSimpArgs false
set_option linter.unusedVariables false
def rotr32 (x : UInt32) (i : Nat) : UInt32 := shl32 x (32 - i) ||| shr32 x i
theorem and31 (i : Nat) (h : i < 32) (h0 : 0 < i) : IntKind.u64.wrap (BitVec.ofInt IntKind.u64.bits (IntKind.u64.wrap (-(i : Int))) &&& BitVec.ofInt IntKind.u64.bits 31).toNat = ((32 - i : Nat) : Int) := by
  have : ∀ i : Fin 32, 0 < i.val → IntKind.u64.wrap (BitVec.ofInt IntKind.u64.bits (IntKind.u64.wrap (-(i.val : Int))) &&& BitVec.ofInt IntKind.u64.bits 31).toNat = ((32 - i.val : Nat) : Int) := by decide
  exact this ⟨i, h⟩ h0
theorem sub32 (i : Nat) (h : i < 32) : (32 : Int) - ((32 - i : Nat) : Int) = (i : Int) := by omega
theorem in32 (i : Nat) (h : i < 32) : inK .u64 (32 - ((32 - i : Nat) : Int)) := inK_u64 (by omega)
theorem in32' (i : Nat) (h : i < 32) : inK .i64 (32 - (i : Int)) := inK_i64 (by omega)
theorem sub32' (i : Nat) (h : i < 32) : (32 : Int) - (i : Int) = ((32 - i : Nat) : Int) := by omega
theorem neg32 (i : Nat) (h : i < 32) : IntKind.i64.wrap (0 - (i : Int)) = -(i : Int) := inK_i64 (n := 0 - (i : Int)) (by omega) |>.trans (by omega)
theorem rotl_run (ax : Axs) (hax : ax 84 = none) (x : UInt32) (i : Nat) (h0 : 0 < i) (h1 : i < 32) (s : CS) : callR Tryd.prog (EE ax) 84 [vw x, .int .i64 (-(i : Int))] s = some (vw (rotr32 x i), s) := by
  refine callR_go (fn := Tryd.f84) 17 hax (fn84 ax) rfl Tryd.ntmps84 (by simp) ?_
  simp (disch := omega) only [ofArgs_cons, ofArgs_nil, Nat.reduceAdd]
  apply W.seq
  apply W.region
  · simp (disch := first | omega | (simp (disch := omega) [ev_tmp, ev_const, get_of, upd_same, upd_ne, Tryd.underlying83, Tryd.underlying3, Tryd.underlying29, Tryd.underlying5]; done) | (apply inK_i64; omega) | (apply inK_u64; omega)) only [runC_cons, runC_nil, stepC_free, dstC_dst, dstC_none, thenC_some, cop_assign, cop_move, cop_conv, cop_bin, cop_un, ev_tmp, ev_const, put_of, get_of, upd_same, upd_ne, opConvert, ti3, ti83, ti29, ti5, ti9]
    with_reducible rfl
  simp only [onN]
  apply W.seq
  apply W.region
  · simp (disch := first | omega | (simp (disch := omega) [ev_tmp, ev_const, get_of, upd_same, upd_ne, Tryd.underlying83, Tryd.underlying3, Tryd.underlying29, Tryd.underlying5]; done) | (apply inK_i64; omega) | (apply inK_u64; omega)) only [runC_cons, runC_nil, stepC_free, dstC_dst, dstC_none, thenC_some, cop_assign, cop_move, cop_conv, cop_bin, cop_un, ev_tmp, ev_const, put_of, get_of, upd_same, upd_ne, opConvert, ti3, ti83, ti29, ti5, ti9, oc_int, ow_and, and31 i h1 h0]
    with_reducible rfl
  simp only [onN]
  apply W.seq
  apply W.region
  · simp (disch := first | omega | (simp (disch := omega) [ev_tmp, ev_const, get_of, upd_same, upd_ne, Tryd.underlying83, Tryd.underlying3, Tryd.underlying29, Tryd.underlying5]; done) | (apply inK_i64; omega) | (apply inK_u64; omega)) only [runC_cons, runC_nil, stepC_free, dstC_dst, dstC_none, thenC_some, cop_assign, cop_move, cop_conv, cop_bin, cop_un, ev_tmp, ev_const, put_of, get_of, upd_same, upd_ne, opConvert, ti3, ti83, ti29, ti5, ti9, oi_sub, bw_shl, bw_shr, bw_or, sub32 i h1]
    with_reducible rfl
  simp only [onN]
  apply W.ret
  refine ⟨.inr rfl, [vw (rotr32 x i)], ?_, rfl⟩
  simp (disch := omega) only [resC, Tryd.results84, get_of, upd_same]
  rfl
def Plain (ax : Axs) : Prop := ∀ f, [16, 31, 53].contains f = false → ax f = none
def mix32 (x : UInt32) (i j k : Nat) : UInt32 := rotr32 x i ^^^ rotr32 x j ^^^ rotr32 x k
theorem mix_run (ax : Axs) (hp : Plain ax) (x : UInt32) (i j k : Nat) (hi0 : 0 < i) (hi : i < 32) (hj0 : 0 < j) (hj : j < 32) (hk0 : 0 < k) (hk : k < 32) (s : CS) : callR Tryd.prog (EE ax) 78 [vw x, .int .i64 (i : Int), .int .i64 (j : Int), .int .i64 (k : Int)] s = some (vw (mix32 x i j k), s) := by
  have hax : ax 78 = none := hp _ (by decide)
  have hr : ax 84 = none := hp _ (by decide)
  have ri := rotl_run ax hr x i hi0 hi
  have rj := rotl_run ax hr x j hj0 hj
  have rk := rotl_run ax hr x k hk0 hk
  refine callR_go (fn := Tryd.f78) 23 hax (fn78 ax) rfl Tryd.ntmps78 (by simp) ?_
  simp (disch := omega) only [ofArgs_cons, ofArgs_nil, Nat.reduceAdd]
  apply W.seq
  apply W.region
  · simp (disch := first | omega | (simp (disch := omega) [ev_tmp, ev_const, get_of, upd_same, upd_ne, Tryd.underlying83, Tryd.underlying3, Tryd.underlying29, Tryd.underlying5]; done) | (apply inK_i64; omega) | (apply inK_u64; omega)) only [runC_cons, runC_nil, stepC_free, dstC_dst, dstC_none, thenC_some, cop_assign, cop_move, cop_conv, cop_bin, cop_un, ev_tmp, ev_const, put_of, get_of, upd_same, upd_ne, opConvert, ti3, ti83, ti29, ti5, ti9]
    with_reducible rfl
  simp only [onN]
  apply W.seq
  apply W.region
  · simp (disch := first | omega | (simp (disch := omega) [ev_tmp, ev_const, get_of, upd_same, upd_ne, Tryd.underlying83, Tryd.underlying3, Tryd.underlying29, Tryd.underlying5]; done) | (apply inK_i64; omega) | (apply inK_u64; omega)) only [runC_cons, runC_nil, stepC_free, dstC_dst, dstC_none, thenC_some, cop_assign, cop_move, cop_conv, cop_bin, cop_un, ev_tmp, ev_const, put_of, get_of, upd_same, upd_ne, opConvert, ti3, ti83, ti29, ti5, ti9, cop_call, List.map_cons, List.map_nil, List.toList_toArray, ou_neg, neg32 i hi, neg32 j hj, neg32 k hk, ri, rj, rk, bw_xor]
    with_reducible rfl
  simp only [onN]
  apply W.ret
  refine ⟨.inr rfl, [vw (mix32 x i j k)], ?_, rfl⟩
  simp (disch := omega) only [resC, Tryd.results78, get_of, upd_same]
  all_goals rfl
theorem rotr_run (ax : Axs) (hp : Plain ax) (x : UInt32) (i : Nat) (h0 : 0 < i) (h1 : i < 32) (s : CS) : callR Tryd.prog (EE ax) 52 [vw x, .int .i64 (i : Int)] s = some (vw (rotr32 x i), s) := by
  have hax : ax 52 = none := hp _ (by decide)
  have hor : shr32 x i ||| shl32 x (32 - i) = rotr32 x i := UInt32.or_comm _ _
  obtain ⟨n, ob, lim, rd, wr⟩ := s
  refine callR_go (fn := Tryd.f52) 13 hax (fn52 ax) rfl Tryd.ntmps52 (by simp) ?_
  simp (disch := omega) only [ofArgs_cons, ofArgs_nil, Nat.reduceAdd]
  apply W.seq
  apply W.region
  · simp (disch := first | omega | (simp (disch := omega) [ev_tmp, ev_const, get_of, upd_same, upd_ne, Tryd.underlying83, Tryd.underlying3, Tryd.underlying29, Tryd.underlying5]; done) | (apply inK_i64; omega) | (apply inK_u64; omega)) only [runC_cons, runC_nil, stepC_free, dstC_dst, dstC_none, thenC_some, cop_assign, cop_move, cop_conv, cop_bin, cop_un, ev_tmp, ev_const, put_of, get_of, upd_same, upd_ne, opConvert, ti3, ti83, ti29, ti5, ti9]
    with_reducible rfl
  simp only [onN]
  apply W.seq
  apply W.quiet
  · simp (disch := first | omega | (simp (disch := omega) [ev_tmp, ev_const, get_of, upd_same, upd_ne, Tryd.underlying83, Tryd.underlying3, Tryd.underlying29, Tryd.underlying5]; done) | (apply inK_i64; omega) | (apply inK_u64; omega)) only [quietC_cons, quietC_nil, inner_st, thenQ_same, stepC_free, dstC_dst, dstC_none, thenC_some, cop_assign, cop_move, cop_conv, cop_bin, cop_un, ev_tmp, ev_const, put_of, get_of, upd_same, upd_ne, opConvert, ti3, ti83, ti29, ti5, ti9, oi_sub, bw_shl, bw_shr, bw_or, sub32' i h1, hor]
    with_reducible rfl
  simp only [onN]
  apply W.ret
  refine ⟨.inr rfl, [vw (rotr32 x i)], ?_, rfl⟩
  simp (disch := omega) only [resC, Tryd.results52, get_of, upd_same]
  all_goals rfl
end Go.Proofs.YtcmfoipnoejmlaaDoor
