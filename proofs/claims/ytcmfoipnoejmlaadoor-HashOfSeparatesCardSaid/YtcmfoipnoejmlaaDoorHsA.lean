/- The environment of the plain machine for the layers 1 to 3: which functions it may enter, and the types' rows, each by the kernel. -/
import Derived.Test.YtcmfoipnoejmlaaDoorProg
import Derived.Test.YtcmfoipnoejmlaaDoorCmC
import Derived.KernelRfl
set_option linter.unusedSimpArgs false
set_option linter.unusedVariables false
set_option linter.unusedSectionVars false
namespace Go.Proofs.YtcmfoipnoejmlaaDoor
open Go Go.RowKit
noncomputable def LL : List Nat := [3, 4, 5, 6, 7, 8, 9, 16, 17, 18, 19, 20, 21, 22, 23, 24, 25, 26, 27, 28, 29, 30, 48, 49, 50, 51, 52, 53, 54, 55, 56, 57, 58, 46, 59, 77, 78, 84]
def GG : List Nat := [0, 1]
noncomputable def EE (ax : Axs) : Env := envAx Tryd.prog LL ax
theorem envs_ok (ax : Axs) : EnvOk Tryd.prog (EE ax) := env_ok _ _ _
theorem funcs_ok : funcsOk Tryd.prog GG LL = true := by kernel_rfl
theorem mixed : Tryd.prog.follows .mixedOrders = true := by kernel_rfl
theorem fn3 (ax : Axs) : (EE ax).fn.at 3 = some Tryd.f3 := by kernel_rfl
theorem fn4 (ax : Axs) : (EE ax).fn.at 4 = some Tryd.f4 := by kernel_rfl
theorem fn5 (ax : Axs) : (EE ax).fn.at 5 = some Tryd.f5 := by kernel_rfl
theorem fn6 (ax : Axs) : (EE ax).fn.at 6 = some Tryd.f6 := by kernel_rfl
theorem fn7 (ax : Axs) : (EE ax).fn.at 7 = some Tryd.f7 := by kernel_rfl
theorem fn8 (ax : Axs) : (EE ax).fn.at 8 = some Tryd.f8 := by kernel_rfl
theorem fn9 (ax : Axs) : (EE ax).fn.at 9 = some Tryd.f9 := by kernel_rfl
theorem fn16 (ax : Axs) : (EE ax).fn.at 16 = some Tryd.f16 := by kernel_rfl
theorem fn17 (ax : Axs) : (EE ax).fn.at 17 = some Tryd.f17 := by kernel_rfl
theorem fn18 (ax : Axs) : (EE ax).fn.at 18 = some Tryd.f18 := by kernel_rfl
theorem fn19 (ax : Axs) : (EE ax).fn.at 19 = some Tryd.f19 := by kernel_rfl
theorem fn20 (ax : Axs) : (EE ax).fn.at 20 = some Tryd.f20 := by kernel_rfl
theorem fn21 (ax : Axs) : (EE ax).fn.at 21 = some Tryd.f21 := by kernel_rfl
theorem fn22 (ax : Axs) : (EE ax).fn.at 22 = some Tryd.f22 := by kernel_rfl
theorem fn23 (ax : Axs) : (EE ax).fn.at 23 = some Tryd.f23 := by kernel_rfl
theorem fn24 (ax : Axs) : (EE ax).fn.at 24 = some Tryd.f24 := by kernel_rfl
theorem fn25 (ax : Axs) : (EE ax).fn.at 25 = some Tryd.f25 := by kernel_rfl
theorem fn26 (ax : Axs) : (EE ax).fn.at 26 = some Tryd.f26 := by kernel_rfl
theorem fn27 (ax : Axs) : (EE ax).fn.at 27 = some Tryd.f27 := by kernel_rfl
theorem fn28 (ax : Axs) : (EE ax).fn.at 28 = some Tryd.f28 := by kernel_rfl
theorem fn29 (ax : Axs) : (EE ax).fn.at 29 = some Tryd.f29 := by kernel_rfl
theorem fn30 (ax : Axs) : (EE ax).fn.at 30 = some Tryd.f30 := by kernel_rfl
theorem fn48 (ax : Axs) : (EE ax).fn.at 48 = some Tryd.f48 := by kernel_rfl
theorem fn49 (ax : Axs) : (EE ax).fn.at 49 = some Tryd.f49 := by kernel_rfl
theorem fn50 (ax : Axs) : (EE ax).fn.at 50 = some Tryd.f50 := by kernel_rfl
theorem fn51 (ax : Axs) : (EE ax).fn.at 51 = some Tryd.f51 := by kernel_rfl
theorem fn52 (ax : Axs) : (EE ax).fn.at 52 = some Tryd.f52 := by kernel_rfl
theorem fn53 (ax : Axs) : (EE ax).fn.at 53 = some Tryd.f53 := by kernel_rfl
theorem fn54 (ax : Axs) : (EE ax).fn.at 54 = some Tryd.f54 := by kernel_rfl
theorem fn55 (ax : Axs) : (EE ax).fn.at 55 = some Tryd.f55 := by kernel_rfl
theorem fn56 (ax : Axs) : (EE ax).fn.at 56 = some Tryd.f56 := by kernel_rfl
theorem fn57 (ax : Axs) : (EE ax).fn.at 57 = some Tryd.f57 := by kernel_rfl
theorem fn58 (ax : Axs) : (EE ax).fn.at 58 = some Tryd.f58 := by kernel_rfl
theorem fn46 (ax : Axs) : (EE ax).fn.at 46 = some Tryd.f46 := by kernel_rfl
theorem fn59 (ax : Axs) : (EE ax).fn.at 59 = some Tryd.f59 := by kernel_rfl
theorem fn77 (ax : Axs) : (EE ax).fn.at 77 = some Tryd.f77 := by kernel_rfl
theorem fn78 (ax : Axs) : (EE ax).fn.at 78 = some Tryd.f78 := by kernel_rfl
theorem fn84 (ax : Axs) : (EE ax).fn.at 84 = some Tryd.f84 := by kernel_rfl
theorem ti4 (ax : Axs) : (EE ax).ti.at 4 = some ⟨.bool, 1, 1, [.bool false]⟩ := by kernel_rfl
theorem ti3 (ax : Axs) : (EE ax).ti.at 3 = some ⟨.int .i64, 1, 8, [.int .i64 0]⟩ := by kernel_rfl
theorem ti5 (ax : Axs) : (EE ax).ti.at 5 = some ⟨.int .u8, 1, 1, [.int .u8 0]⟩ := by kernel_rfl
theorem ti29 (ax : Axs) : (EE ax).ti.at 29 = some ⟨.int .u32, 1, 4, [.int .u32 0]⟩ := by kernel_rfl
theorem ti32 (ax : Axs) : (EE ax).ti.at 32 = some ⟨.int .u64, 1, 8, [.int .u64 0]⟩ := by kernel_rfl
theorem ti83 (ax : Axs) : (EE ax).ti.at 83 = some ⟨.int .u64, 1, 8, [.int .u64 0]⟩ := by kernel_rfl
theorem ti9 (ax : Axs) : (EE ax).ti.at 9 = some ⟨.string, 1, 16, [.string ⟨#[]⟩]⟩ := by kernel_rfl
theorem ti22 (ax : Axs) : (EE ax).ti.at 22 = some ⟨.slice 5, 1, 24, [.slice none 0 0]⟩ := by kernel_rfl
theorem ti27 (ax : Axs) : (EE ax).ti.at 27 = some ⟨.slice 9, 1, 24, [.slice none 0 0]⟩ := by kernel_rfl
theorem ti75 (ax : Axs) : (EE ax).ti.at 75 = some ⟨.array 64 29, 64, 256, List.replicate 64 (.int .u32 0)⟩ := by kernel_rfl
theorem ti30 (ax : Axs) : (EE ax).ti.at 30 = some ⟨.array 8 29, 8, 32, List.replicate 8 (.int .u32 0)⟩ := by kernel_rfl
theorem ti96 (ax : Axs) : (EE ax).ti.at 96 = some ⟨.array 4 29, 4, 16, List.replicate 4 (.int .u32 0)⟩ := by kernel_rfl
theorem ti31 (ax : Axs) : (EE ax).ti.at 31 = some ⟨.array 64 5, 64, 64, List.replicate 64 (.int .u8 0)⟩ := by kernel_rfl
theorem ti24 (ax : Axs) : (EE ax).ti.at 24 = some ⟨.array 32 5, 32, 32, List.replicate 32 (.int .u8 0)⟩ := by kernel_rfl
theorem ti43 (ax : Axs) : (EE ax).ti.at 43 = some ⟨.array 16 5, 16, 16, List.replicate 16 (.int .u8 0)⟩ := by kernel_rfl
theorem ti48 (ax : Axs) : (EE ax).ti.at 48 = some ⟨.array 2 5, 2, 2, List.replicate 2 (.int .u8 0)⟩ := by kernel_rfl
theorem el_u8 (ax : Axs) : elemOf? (EE ax) 22 = some ⟨.int .u8, 1, 1, [.int .u8 0]⟩ := by unfold elemOf?; rw [ti22]; simp only [ti5]
theorem src_u8 (ax : Axs) : srcT (EE ax) 22 = true := by unfold srcT; rw [ti22]
theorem src_str (ax : Axs) : srcT (EE ax) 9 = true := by unfold srcT; rw [ti9]
theorem vb_cells (x : UInt8) : (vb x).cells = #[vb x] := Eq.trans rfl rfl
end Go.Proofs.YtcmfoipnoejmlaaDoor
namespace Go.Proofs.YtcmfoipnoejmlaaDoor
open Go Go.RowKit
set_option linter.unusedSimpArgs false
set_option linter.unusedVariables false
def rotr32 (x : UInt32) (i : Nat) : UInt32 := shl32 x (32 - i) ||| shr32 x i
theorem and31 (i : Nat) (h : i < 32) (h0 : 0 < i) : IntKind.u64.wrap (BitVec.ofInt IntKind.u64.bits (IntKind.u64.wrap (-(i : Int))) &&& BitVec.ofInt IntKind.u64.bits 31).toNat = ((32 - i : Nat) : Int) := by
  have : ∀ i : Fin 32, 0 < i.val → IntKind.u64.wrap (BitVec.ofInt IntKind.u64.bits (IntKind.u64.wrap (-(i.val : Int))) &&& BitVec.ofInt IntKind.u64.bits 31).toNat = ((32 - i.val : Nat) : Int) := by decide
  exact this ⟨i, h⟩ h0
theorem sub32 (i : Nat) (h : i < 32) : (32 : Int) - ((32 - i : Nat) : Int) = (i : Int) := by omega
theorem in32 (i : Nat) (h : i < 32) : inK .u64 (32 - ((32 - i : Nat) : Int)) := inK_u64 (by omega)
theorem in32' (i : Nat) (h : i < 32) : inK .i64 (32 - (i : Int)) := inK_i64 (by omega)
theorem sub32' (i : Nat) (h : i < 32) : (32 : Int) - (i : Int) = ((32 - i : Nat) : Int) := by omega
theorem neg32 (i : Nat) (h : i < 32) : IntKind.i64.wrap (0 - (i : Int)) = -(i : Int) := inK_i64 (n := 0 - (i : Int)) (by omega) |>.trans (by omega)
theorem rotl_run (ax : Axs) (hax : ax 84 = none) (x : UInt32) (i : Nat) (h0 : 0 < i) (h1 : i < 32) (s : CS) : callR Tryd.prog (EE ax) 84 [vw x, .int .i64 (-(i : Int))] s = some (vw (rotr32 x i), s) := by
  refine callR_go (fn := Tryd.f84) 17 hax (fn84 ax) rfl Tryd.ntmps84 (by simp) ?_
  simp (disch := omega) only [ofArgs_cons, ofArgs_nil, Nat.reduceAdd]
  apply W.seq
  apply W.region
  · simp (disch := first | omega | (simp (disch := omega) [ev_tmp, ev_const, get_of, upd_same, upd_ne, Tryd.underlying83, Tryd.underlying3, Tryd.underlying29, Tryd.underlying5]; done) | (apply inK_i64; omega) | (apply inK_u64; omega)) only [runC_cons, runC_nil, stepC_free, dstC_dst, dstC_none, thenC_some, cop_assign, cop_move, cop_conv, cop_bin, cop_un, ev_tmp, ev_const, put_of, get_of, upd_same, upd_ne, opConvert, ti3, ti83, ti29, ti5, ti9]
    with_reducible rfl
  simp only [onN]
  apply W.seq
  apply W.region
  · simp (disch := first | omega | (simp (disch := omega) [ev_tmp, ev_const, get_of, upd_same, upd_ne, Tryd.underlying83, Tryd.underlying3, Tryd.underlying29, Tryd.underlying5]; done) | (apply inK_i64; omega) | (apply inK_u64; omega)) only [runC_cons, runC_nil, stepC_free, dstC_dst, dstC_none, thenC_some, cop_assign, cop_move, cop_conv, cop_bin, cop_un, ev_tmp, ev_const, put_of, get_of, upd_same, upd_ne, opConvert, ti3, ti83, ti29, ti5, ti9, oc_int, ow_and, and31 i h1 h0]
    with_reducible rfl
  simp only [onN]
  apply W.seq
  apply W.region
  · simp (disch := first | omega | (simp (disch := omega) [ev_tmp, ev_const, get_of, upd_same, upd_ne, Tryd.underlying83, Tryd.underlying3, Tryd.underlying29, Tryd.underlying5]; done) | (apply inK_i64; omega) | (apply inK_u64; omega)) only [runC_cons, runC_nil, stepC_free, dstC_dst, dstC_none, thenC_some, cop_assign, cop_move, cop_conv, cop_bin, cop_un, ev_tmp, ev_const, put_of, get_of, upd_same, upd_ne, opConvert, ti3, ti83, ti29, ti5, ti9, oi_sub, bw_shl, bw_shr, bw_or, sub32 i h1]
    with_reducible rfl
  simp only [onN]
  apply W.ret
  refine ⟨.inr rfl, [vw (rotr32 x i)], ?_, rfl⟩
  simp (disch := omega) only [resC, Tryd.results84, get_of, upd_same]
  rfl
def Plain (ax : Axs) : Prop := ∀ f, [16, 31, 53].contains f = false → ax f = none
def mix32 (x : UInt32) (i j k : Nat) : UInt32 := rotr32 x i ^^^ rotr32 x j ^^^ rotr32 x k
theorem mix_run (ax : Axs) (hp : Plain ax) (x : UInt32) (i j k : Nat) (hi0 : 0 < i) (hi : i < 32) (hj0 : 0 < j) (hj : j < 32) (hk0 : 0 < k) (hk : k < 32) (s : CS) : callR Tryd.prog (EE ax) 78 [vw x, .int .i64 (i : Int), .int .i64 (j : Int), .int .i64 (k : Int)] s = some (vw (mix32 x i j k), s) := by
  have hax : ax 78 = none := hp _ (by decide)
  have hr : ax 84 = none := hp _ (by decide)
  have ri := rotl_run ax hr x i hi0 hi
  have rj := rotl_run ax hr x j hj0 hj
  have rk := rotl_run ax hr x k hk0 hk
  refine callR_go (fn := Tryd.f78) 23 hax (fn78 ax) rfl Tryd.ntmps78 (by simp) ?_
  simp (disch := omega) only [ofArgs_cons, ofArgs_nil, Nat.reduceAdd]
  apply W.seq
  apply W.region
  · simp (disch := first | omega | (simp (disch := omega) [ev_tmp, ev_const, get_of, upd_same, upd_ne, Tryd.underlying83, Tryd.underlying3, Tryd.underlying29, Tryd.underlying5]; done) | (apply inK_i64; omega) | (apply inK_u64; omega)) only [runC_cons, runC_nil, stepC_free, dstC_dst, dstC_none, thenC_some, cop_assign, cop_move, cop_conv, cop_bin, cop_un, ev_tmp, ev_const, put_of, get_of, upd_same, upd_ne, opConvert, ti3, ti83, ti29, ti5, ti9]
    with_reducible rfl
  simp only [onN]
  apply W.seq
  apply W.region
  · simp (disch := first | omega | (simp (disch := omega) [ev_tmp, ev_const, get_of, upd_same, upd_ne, Tryd.underlying83, Tryd.underlying3, Tryd.underlying29, Tryd.underlying5]; done) | (apply inK_i64; omega) | (apply inK_u64; omega)) only [runC_cons, runC_nil, stepC_free, dstC_dst, dstC_none, thenC_some, cop_assign, cop_move, cop_conv, cop_bin, cop_un, ev_tmp, ev_const, put_of, get_of, upd_same, upd_ne, opConvert, ti3, ti83, ti29, ti5, ti9, cop_call, List.map_cons, List.map_nil, List.toList_toArray, ou_neg, neg32 i hi, neg32 j hj, neg32 k hk, ri, rj, rk, bw_xor]
    with_reducible rfl
  simp only [onN]
  apply W.ret
  refine ⟨.inr rfl, [vw (mix32 x i j k)], ?_, rfl⟩
  simp (disch := omega) only [resC, Tryd.results78, get_of, upd_same]
  all_goals rfl
theorem rotr_run (ax : Axs) (hp : Plain ax) (x : UInt32) (i : Nat) (h0 : 0 < i) (h1 : i < 32) (s : CS) : callR Tryd.prog (EE ax) 52 [vw x, .int .i64 (i : Int)] s = some (vw (rotr32 x i), s) := by
  have hax : ax 52 = none := hp _ (by decide)
  have hor : shr32 x i ||| shl32 x (32 - i) = rotr32 x i := UInt32.or_comm _ _
  obtain ⟨n, ob, lim, rd, wr⟩ := s
  refine callR_go (fn := Tryd.f52) 13 hax (fn52 ax) rfl Tryd.ntmps52 (by simp) ?_
  simp (disch := omega) only [ofArgs_cons, ofArgs_nil, Nat.reduceAdd]
  apply W.seq
  apply W.region
  · simp (disch := first | omega | (simp (disch := omega) [ev_tmp, ev_const, get_of, upd_same, upd_ne, Tryd.underlying83, Tryd.underlying3, Tryd.underlying29, Tryd.underlying5]; done) | (apply inK_i64; omega) | (apply inK_u64; omega)) only [runC_cons, runC_nil, stepC_free, dstC_dst, dstC_none, thenC_some, cop_assign, cop_move, cop_conv, cop_bin, cop_un, ev_tmp, ev_const, put_of, get_of, upd_same, upd_ne, opConvert, ti3, ti83, ti29, ti5, ti9]
    with_reducible rfl
  simp only [onN]
  apply W.seq
  apply W.quiet
  · simp (disch := first | omega | (simp (disch := omega) [ev_tmp, ev_const, get_of, upd_same, upd_ne, Tryd.underlying83, Tryd.underlying3, Tryd.underlying29, Tryd.underlying5]; done) | (apply inK_i64; omega) | (apply inK_u64; omega)) only [quietC_cons, quietC_nil, inner_st, thenQ_same, stepC_free, dstC_dst, dstC_none, thenC_some, cop_assign, cop_move, cop_conv, cop_bin, cop_un, ev_tmp, ev_const, put_of, get_of, upd_same, upd_ne, opConvert, ti3, ti83, ti29, ti5, ti9, oi_sub, bw_shl, bw_shr, bw_or, sub32' i h1, hor]
    with_reducible rfl
  simp only [onN]
  apply W.ret
  refine ⟨.inr rfl, [vw (rotr32 x i)], ?_, rfl⟩
  simp (disch := omega) only [resC, Tryd.results52, get_of, upd_same]
  all_goals rfl
end Go.Proofs.YtcmfoipnoejmlaaDoor
namespace Go.Proofs.YtcmfoipnoejmlaaDoor
open Go Go.RowKit
set_option linter.unusedSimpArgs false
set_option linter.unusedVariables false
/-- the differences of two lists of bytes so far -/
def diffU (a b : List UInt8) : Nat → UInt8
  | 0 => 0
  | i + 1 => diffU a b i ||| (a.getD i 0 ^^^ b.getD i 0)
theorem or_zero (x y : UInt8) : x ||| y = 0 ↔ x = 0 ∧ y = 0 := by
  constructor
  · intro h
    have h1 : x.toBitVec ||| y.toBitVec = 0#8 := congrArg UInt8.toBitVec h
    have hx : x.toBitVec = 0#8 := by
      apply BitVec.eq_of_getLsbD_eq
      intro i hi
      have := congrArg (fun v => v.getLsbD i) h1
      simp only [BitVec.getLsbD_or, BitVec.getLsbD_zero, Bool.or_eq_false_iff] at this
      rw [this.1]; simp
    have hy : y.toBitVec = 0#8 := by
      apply BitVec.eq_of_getLsbD_eq
      intro i hi
      have := congrArg (fun v => v.getLsbD i) h1
      simp only [BitVec.getLsbD_or, BitVec.getLsbD_zero, Bool.or_eq_false_iff] at this
      rw [this.2]; simp
    exact ⟨UInt8.toBitVec_inj.1 hx, UInt8.toBitVec_inj.1 hy⟩
  · rintro ⟨rfl, rfl⟩; rfl
theorem xor_zero (x y : UInt8) : x ^^^ y = 0 ↔ x = y := by
  constructor
  · intro h
    have h1 : x.toBitVec ^^^ y.toBitVec = 0#8 := congrArg UInt8.toBitVec h
    apply UInt8.toBitVec_inj.1
    apply BitVec.eq_of_getLsbD_eq
    intro i hi
    have := congrArg (fun v => v.getLsbD i) h1
    simpa using this
  · rintro rfl; exact UInt8.xor_self
theorem diff_zero (a b : List UInt8) : ∀ n, diffU a b n = 0 ↔ ∀ i, i < n → a.getD i 0 = b.getD i 0
  | 0 => by simp [diffU]
  | n + 1 => by
    rw [diffU, or_zero, xor_zero, diff_zero a b n]
    constructor
    · rintro ⟨h1, h2⟩ i hi
      by_cases hin : i = n
      · subst hin; exact h2
      · exact h1 i (by omega)
    · intro h
      exact ⟨fun i hi => h i (by omega), h n (by omega)⟩
theorem diff_eq (a b : ByteArray) (h : a.size = b.size) : (diffU a.data.toList b.data.toList a.size = 0) ↔ a = b := by
  rw [diff_zero]
  constructor
  · intro hi
    apply ByteArray.ext
    apply Array.toList_inj.1
    apply List.ext_getElem
    · simpa using h
    · intro i h1 h2
      have h3 : i < a.size := by simpa using h1
      have := hi i h3
      rw [List.getD_eq_getElem?_getD, List.getD_eq_getElem?_getD, List.getElem?_eq_getElem h1, List.getElem?_eq_getElem h2] at this
      exact this
  · rintro rfl i _; rfl
theorem str_at (b : ByteArray) (k : Nat) (h : k < b.size) : b.data.toList[k]? = some (b.data.toList.getD k 0) := by
  have h1 : k < b.data.toList.length := by simpa using h
  rw [List.getD_eq_getElem?_getD, List.getElem?_eq_getElem h1]; rfl
theorem vb0 : Value.int .u8 0 = vb 0 := rfl
theorem vb_eq0 (x : UInt8) : (decide ((x.toNat : Int) = 0)) = decide (x = 0) := by
  congr 1
  rw [eq_iff_iff]
  constructor
  · intro h; apply UInt8.toNat_inj.1; have : x.toNat = 0 := by omega
    rw [this]; rfl
  · rintro rfl; rfl
theorem natOf_cast (k : IntKind) (n : Nat) : natOf (.int k (n : Int)) = some n := Eq.trans rfl rfl
theorem vb_def (c : UInt8) : Value.int .u8 (c.toNat : Int) = vb c := Eq.trans rfl rfl
theorem equal_run (ax : Axs) (hp : Plain ax) (a b : ByteArray) (s : CS) (ha : a.size < 1000000) : callR Tryd.prog (EE ax) 30 [.string a, .string b] s = some (.bool (decide (a = b)), s) := by
  have hax : ax 30 = none := hp _ (by decide)
  obtain ⟨n, ob, lim, rd, wr⟩ := s
  refine callR_go (fn := Tryd.f30) 29 hax (fn30 ax) rfl Tryd.ntmps30 (by simp) ?_
  simp (disch := omega) only [ofArgs_cons, ofArgs_nil, Nat.reduceAdd]
  apply W.seq
  apply W.region
  · simp (disch := first | omega | (simp (disch := omega) [ev_tmp, ev_const, get_of, upd_same, upd_ne, Tryd.underlying83, Tryd.underlying3, Tryd.underlying29, Tryd.underlying5]; done) | (apply inK_i64; omega) | (apply inK_u64; omega)) only [runC_cons, runC_nil, stepC_free, dstC_dst, dstC_none, thenC_some, cop_assign, cop_move, cop_conv, cop_bin, cop_un, ev_tmp, ev_const, put_of, get_of, upd_same, upd_ne, opConvert, ti3, ti83, ti29, ti5, ti9, opBuiltin, opLen, cop_builtin, List.toList_toArray]
    with_reducible rfl
  simp only [onN]
  apply W.seq
  apply W.seq
  apply W.region
  · simp (disch := first | omega | (simp (disch := omega) [ev_tmp, ev_const, get_of, upd_same, upd_ne, Tryd.underlying83, Tryd.underlying3, Tryd.underlying29, Tryd.underlying5]; done) | (apply inK_i64; omega) | (apply inK_u64; omega)) only [runC_cons, runC_nil, stepC_free, dstC_dst, dstC_none, thenC_some, cop_assign, cop_move, cop_conv, cop_bin, cop_un, ev_tmp, ev_const, put_of, get_of, upd_same, upd_ne, opConvert, ti3, ti83, ti29, ti5, ti9, opBuiltin, opLen, cop_builtin, List.toList_toArray, oi_neq]
    with_reducible rfl
  simp only [onN]
  by_cases hs : (a.size : Int) = b.size
  case neg =>
    refine W.cond (b := true) ?_ ?_
    · simp (disch := omega) only [ev_tmp, get_of, upd_same, ne_eq, hs, not_false_eq_true, decide_true]
    simp only [cond_true]
    apply W.seq
    apply W.region
    · simp (disch := first | omega | (simp (disch := omega) [ev_tmp, ev_const, get_of, upd_same, upd_ne, Tryd.underlying83, Tryd.underlying3, Tryd.underlying29, Tryd.underlying5]; done) | (apply inK_i64; omega) | (apply inK_u64; omega)) only [runC_cons, runC_nil, stepC_free, dstC_dst, dstC_none, thenC_some, cop_assign, cop_move, cop_conv, cop_bin, cop_un, ev_tmp, ev_const, put_of, get_of, upd_same, upd_ne, opConvert, ti3, ti83, ti29, ti5, ti9, opBuiltin, opLen, cop_builtin, List.toList_toArray]
      with_reducible rfl
    simp only [onN]
    apply W.ret
    refine ⟨.inr rfl, [.bool (decide (a = b))], ?_, rfl⟩
    rw [show decide (a = b) = false from decide_eq_false fun h => hs (by rw [h])]
    simp (disch := omega) only [resC, Tryd.results30, get_of, upd_same]
    all_goals rfl
  have hs' : a.size = b.size := by omega
  refine W.cond (b := false) ?_ ?_
  · simp (disch := omega) only [ev_tmp, get_of, upd_same, ne_eq, hs, not_true_eq_false, decide_false]
  simp only [cond_false]
  apply W.skip
  simp only [onN]
  apply W.seq
  apply W.region
  · simp (disch := first | omega | (simp (disch := omega) [ev_tmp, ev_const, get_of, upd_same, upd_ne, Tryd.underlying83, Tryd.underlying3, Tryd.underlying29, Tryd.underlying5]; done) | (apply inK_i64; omega) | (apply inK_u64; omega)) only [runC_cons, runC_nil, stepC_free, dstC_dst, dstC_none, thenC_some, cop_assign, cop_move, cop_conv, cop_bin, cop_un, ev_tmp, ev_const, put_of, get_of, upd_same, upd_ne, opConvert, ti3, ti83, ti29, ti5, ti9, opBuiltin, opLen, cop_builtin, List.toList_toArray]
    with_reducible rfl
  simp only [onN]
  apply W.seq
  apply W.seq
  apply W.region
  · simp (disch := first | omega | (simp (disch := omega) [ev_tmp, ev_const, get_of, upd_same, upd_ne, Tryd.underlying83, Tryd.underlying3, Tryd.underlying29, Tryd.underlying5]; done) | (apply inK_i64; omega) | (apply inK_u64; omega)) only [runC_cons, runC_nil, stepC_free, dstC_dst, dstC_none, thenC_some, cop_assign, cop_move, cop_conv, cop_bin, cop_un, ev_tmp, ev_const, put_of, get_of, upd_same, upd_ne, opConvert, ti3, ti83, ti29, ti5, ti9, opBuiltin, opLen, cop_builtin, List.toList_toArray]
    with_reducible rfl
  simp only [onN]
  apply W.block
  refine W.loop (fun m fr s => ∃ (i : Nat) (h : Nat → Value), i ≤ a.size ∧ m = a.size - i ∧ fr = Fr.of 29 h ∧ h 0 = .string a ∧ h 1 = .string b ∧ h 13 = .int .i64 (a.size : Int) ∧ h 14 = .int .i64 (i : Int) ∧ h 5 = vb (diffU a.data.toList b.data.toList i) ∧ s = ⟨n, ob, lim, rd, wr⟩) ?_ (a.size - 0) _ _ ⟨0, _, by omega, rfl, rfl, ?_, ?_, ?_, ?_, ?_, rfl⟩
  case refine_2 => simp (disch := omega) only [upd_same, upd_ne]
  case refine_3 => simp (disch := omega) only [upd_same, upd_ne]
  case refine_4 => simp (disch := omega) only [upd_same, upd_ne]
  case refine_5 => simp (disch := omega) only [upd_same, upd_ne]; rfl
  case refine_6 => simp (disch := omega) only [upd_same, upd_ne]; rfl
  rintro m fr s ⟨i, h, hi, rfl, rfl, h0, h1, h13, h14, h5, rfl⟩
  apply W.seq
  apply W.region
  · simp (disch := first | omega | (simp (disch := omega) [ev_tmp, ev_const, get_of, upd_same, upd_ne, h0, h1, h5, h13, h14, Tryd.underlying83, Tryd.underlying3, Tryd.underlying29, Tryd.underlying5]; done) | (apply inK_i64; omega) | (apply inK_u64; omega)) only [runC_cons, runC_nil, stepC_free, dstC_dst, dstC_none, thenC_some, cop_assign, cop_move, cop_conv, cop_bin, cop_un, ev_tmp, ev_const, put_of, get_of, upd_same, upd_ne, opConvert, ti3, ti83, ti29, ti5, ti9, opBuiltin, opLen, cop_builtin, List.toList_toArray, h0, h1, h13, h14, oi_lss]
    with_reducible rfl
  simp only [onN]
  apply W.seq
  by_cases hlt : (i : Int) < a.size
  case neg =>
    refine W.cond (b := false) ?_ ?_
    · simp (disch := omega) only [ev_tmp, get_of, upd_same, hlt, decide_false]
    simp only [cond_false]
    apply W.exit
    simp only [onN, onB, Nat.beq_refl, cond_true]
    have hie : i = a.size := by omega
    subst hie
    apply W.seq
    apply W.region
    · simp (disch := first | omega | (simp (disch := omega) [ev_tmp, ev_const, get_of, upd_same, upd_ne, h0, h1, h5, h13, h14, Tryd.underlying83, Tryd.underlying3, Tryd.underlying29, Tryd.underlying5]; done) | (apply inK_i64; omega) | (apply inK_u64; omega)) only [runC_cons, runC_nil, stepC_free, dstC_dst, dstC_none, thenC_some, cop_assign, cop_move, cop_conv, cop_bin, cop_un, ev_tmp, ev_const, put_of, get_of, upd_same, upd_ne, opConvert, ti3, ti83, ti29, ti5, ti9, opBuiltin, opLen, cop_builtin, List.toList_toArray, h5, oi_eql, vb, vb0]
      with_reducible rfl
    simp only [onN]
    apply W.ret
    refine ⟨.inr rfl, [.bool (decide (a = b))], ?_, rfl⟩
    have hd : decide (((diffU a.data.toList b.data.toList a.size).toNat : Int) = ((0 : UInt8).toNat : Int)) = decide (a = b) := by
      rw [show (((0 : UInt8).toNat : Nat) : Int) = 0 from rfl, vb_eq0]
      exact decide_eq_decide.2 (diff_eq a b hs')
    simp (disch := omega) only [resC, Tryd.results30, get_of, upd_same, hd]
    all_goals rfl
  have hlt' : i < a.size := by omega
  refine W.cond (b := true) ?_ ?_
  · simp (disch := omega) only [ev_tmp, get_of, upd_same, hlt, decide_true]
  simp only [cond_true]
  apply W.skip
  simp only [onN]
  apply W.seq
  apply W.block
  apply W.seq
  apply W.region
  · simp (disch := first | omega | (simp (disch := omega) [ev_tmp, ev_const, get_of, upd_same, upd_ne, h0, h1, h5, h13, h14, Tryd.underlying83, Tryd.underlying3, Tryd.underlying29, Tryd.underlying5]; done) | (apply inK_i64; omega) | (apply inK_u64; omega)) only [runC_cons, runC_nil, stepC_free, dstC_dst, dstC_none, thenC_some, cop_assign, cop_move, cop_conv, cop_bin, cop_un, ev_tmp, ev_const, put_of, get_of, upd_same, upd_ne, opConvert, ti3, ti83, ti29, ti5, ti9, opBuiltin, opLen, cop_builtin, List.toList_toArray, h14]
    with_reducible rfl
  simp only [onN]
  apply W.quiet
  · simp (disch := first | omega | (simp (disch := omega) [ev_tmp, ev_const, get_of, upd_same, upd_ne, h0, h1, h5, h13, h14, Tryd.underlying83, Tryd.underlying3, Tryd.underlying29, Tryd.underlying5]; done) | (apply inK_i64; omega) | (apply inK_u64; omega)) only [quietC_cons, quietC_nil, inner_st, thenQ_same, stepC_free, dstC_dst, dstC_none, thenC_some, cop_assign, cop_move, cop_conv, cop_bin, cop_un, ev_tmp, ev_const, put_of, get_of, upd_same, upd_ne, opConvert, ti3, ti83, ti29, ti5, ti9, cop_index, opIndex, h0, h1, h5, h14, natOf_cast, str_at a i hlt', str_at b i (hs' ▸ hlt'), vb_def, bb_xor, bb_or]
    with_reducible rfl
  simp only [onN, onB]
  apply W.region
  · simp (disch := first | omega | (simp (disch := omega) [ev_tmp, ev_const, get_of, upd_same, upd_ne, h0, h1, h5, h13, h14, Tryd.underlying83, Tryd.underlying3, Tryd.underlying29, Tryd.underlying5]; done) | (apply inK_i64; omega) | (apply inK_u64; omega)) only [runC_cons, runC_nil, stepC_free, dstC_dst, dstC_none, thenC_some, cop_assign, cop_move, cop_conv, cop_bin, cop_un, ev_tmp, ev_const, put_of, get_of, upd_same, upd_ne, opConvert, ti3, ti83, ti29, ti5, ti9, opBuiltin, opLen, cop_builtin, List.toList_toArray, h14, oi_add]
    with_reducible rfl
  simp only [onN]
  refine ⟨a.size - (i + 1), by omega, i + 1, _, by omega, rfl, by first | rfl | trivial, ?_, ?_, ?_, ?_, ?_, by first | rfl | trivial⟩
  · simp (disch := omega) only [upd_same, upd_ne, h0]
  · simp (disch := omega) only [upd_same, upd_ne, h1]
  · simp (disch := omega) only [upd_same, upd_ne, h13]
  · simp (disch := omega) only [upd_same, upd_ne]; rfl
  · simp (disch := omega) only [upd_same, upd_ne]; rfl
end Go.Proofs.YtcmfoipnoejmlaaDoor
namespace Go.Proofs.YtcmfoipnoejmlaaDoor
open Go Go.RowKit
set_option linter.unusedSimpArgs false
set_option linter.unusedVariables false
def word (bs : List UInt8) (t : Nat) : Nat → UInt32
  | 0 => 0
  | j + 1 => shl32 (word bs t j) 8 ||| (bs.getD (4 * t + j) 0).toUInt32
def sig0 (p : UInt32) : UInt32 := rotr32 p 7 ^^^ rotr32 p 18 ^^^ shr32 p 3
def sig1 (p : UInt32) : UInt32 := rotr32 p 17 ^^^ rotr32 p 19 ^^^ shr32 p 10
def nextw (w : List UInt32) (t : Nat) : UInt32 := w.getD (t - 16) 0 + sig0 (w.getD (t - 15) 0) + w.getD (t - 7) 0 + sig1 (w.getD (t - 2) 0)
def sched (bs : List UInt8) : Nat → List UInt32
  | 0 => List.replicate 64 0
  | t + 1 => (sched bs t).set t (if t < 16 then word bs t 4 else nextw (sched bs t) t)
theorem sched_len (bs : List UInt8) : ∀ t, (sched bs t).length = 64
  | 0 => by simp [sched]
  | t + 1 => by rw [sched, List.length_set, sched_len bs t]
theorem sched_zero (bs : List UInt8) : ∀ t i, t ≤ i → (sched bs t).getD i 0 = 0
  | 0, i, _ => by
    rw [sched, List.getD_eq_getElem?_getD]
    by_cases hi : i < 64
    · rw [List.getElem?_replicate_of_lt hi]; rfl
    · rw [List.getElem?_eq_none (by simp; omega)]; rfl
  | t + 1, i, h => by
    rw [sched, List.getD_eq_getElem?_getD, List.getElem?_set_ne (by omega), ← List.getD_eq_getElem?_getD]
    exact sched_zero bs t i (by omega)
theorem sched_set0 (bs : List UInt8) (t : Nat) (h : t < 64) : (sched bs t).set t (word bs t 0) = sched bs t := by
  apply List.ext_getElem?
  intro i
  by_cases hi : t = i
  · subst hi
    have hl := sched_len bs t
    have h0 := sched_zero bs t t (Nat.le_refl _)
    rw [List.getElem?_set_self (by omega)]
    rw [List.getD_eq_getElem?_getD] at h0
    rw [List.getElem?_eq_getElem (by omega)] at h0 ⊢
    simp at h0
    rw [h0]; rfl
  · rw [List.getElem?_set_ne hi]
theorem getD_set_same {l : List UInt32} {k : Nat} {x : UInt32} (h : k < l.length) : (l.set k x).getD k 0 = x := by
  rw [List.getD_eq_getElem?_getD, List.getElem?_set_self h]; rfl
theorem sched_run (ax : Axs) (hp : Plain ax) (bs : List UInt8) (fb ub off len cap : Nat) (n : Nat) (g : Nat → Fam) (lim : Nat) (rd wr : List Nat) (hl : lim ≤ n) (hb : BSl g n fb ub off len cap bs) (h64 : len = 64) (hc1 : cap < 1000000000) :
    ∃ n' g' rd', callR Tryd.prog (EE ax) 77 [.slice (some (mkA fb ub off)) len cap] (St n g lim rd wr) = some (.agg (wvs (sched bs 64)).toArray, St n' g' lim rd' wr) ∧ n ≤ n' ∧ n' ≤ n + 2 ∧ (∀ i, i < n → g' i = g i) ∧ (∀ x, x ∈ rd' → x ∈ rd ∨ (x = fb ∧ x < lim)) := by
  have hax : ax 77 = none := hp _ (by decide)
  have hr := hp 84 (by decide)
  obtain ⟨cs, hrow, hcs⟩ := hb.row
  have hbl := hb.lt
  have hbc := hb.fits
  suffices hh : ∃ v s2, callR Tryd.prog (EE ax) 77 [.slice (some (mkA fb ub off)) len cap] (St n g lim rd wr) = some (v, s2) ∧ v = .agg (wvs (sched bs 64)).toArray ∧ ∃ n' g' rd', s2 = St n' g' lim rd' wr ∧ n ≤ n' ∧ n' ≤ n + 2 ∧ (∀ i, i < n → g' i = g i) ∧ (∀ x, x ∈ rd' → x ∈ rd ∨ (x = fb ∧ x < lim)) by
    obtain ⟨v, s2, h1, rfl, n', g', rd', rfl, h2⟩ := hh
    exact ⟨n', g', rd', h1, h2⟩
  refine callR_ex (fn := Tryd.f77) 79 hax (fn77 ax) rfl Tryd.ntmps77 (by simp) ?_
  simp (disch := omega) only [ofArgs_cons, ofArgs_nil, Nat.reduceAdd]
  repeat apply W.seq
  apply W.region
  · simp (disch := first | omega | (simp (disch := omega) [ev_tmp, ev_const, get_of, upd_same, upd_ne, Tryd.underlying3, Tryd.underlying83, Tryd.underlying5, Tryd.underlying29, Tryd.underlying22]; done) | (apply inK_i64; omega) | (apply inK_u64; omega)) only [op_len, cond_true, cond_false, pick_on, stepC_if, goC_true, goC_false, guard_tt, guard_tf, guard_ft, guard_ff, slot_zero, slot_succ, put_some, runC_cons, runC_nil, stepC_free, dstC_dst, dstC_none, thenC_some, cop_assign, cop_move, cop_conv, cop_bin, cop_un, cop_pick, cop_index, cop_indexAddr, cop_load, cop_store, cop_alloc, cop_box, cop_build, cop_slice, cop_s2a, cop_field, cop_fieldAddr, cop_extract, cop_nilCheck, cop_call, cop_builtin, cop_buildSlice, ev_tmp, ev_const, ev_global, ev_func, put_of, get_of, upd_same, upd_ne, List.toList_toArray, List.map_cons, List.map_nil, some_map, none_map, ti3, ti83, ti5, ti29, ti22, alloc_st (ti75 ax)]
    with_reducible rfl
  simp only [onN, onB]
  repeat apply W.seq
  apply W.region
  · simp (disch := first | omega | (simp (disch := omega) [ev_tmp, ev_const, get_of, upd_same, upd_ne, Tryd.underlying3, Tryd.underlying83, Tryd.underlying5, Tryd.underlying29, Tryd.underlying22]; done) | (apply inK_i64; omega) | (apply inK_u64; omega)) only [op_len, cond_true, cond_false, pick_on, stepC_if, goC_true, goC_false, guard_tt, guard_tf, guard_ft, guard_ff, slot_zero, slot_succ, put_some, runC_cons, runC_nil, stepC_free, dstC_dst, dstC_none, thenC_some, cop_assign, cop_move, cop_conv, cop_bin, cop_un, cop_pick, cop_index, cop_indexAddr, cop_load, cop_store, cop_alloc, cop_box, cop_build, cop_slice, cop_s2a, cop_field, cop_fieldAddr, cop_extract, cop_nilCheck, cop_call, cop_builtin, cop_buildSlice, ev_tmp, ev_const, ev_global, ev_func, put_of, get_of, upd_same, upd_ne, List.toList_toArray, List.map_cons, List.map_nil, some_map, none_map, ti3, ti83, ti5, ti29, ti22, alloc_st (ti75 ax)]
    with_reducible rfl
  simp only [onN, onB]
  repeat apply W.seq
  apply W.region
  · simp (disch := first | omega | (simp (disch := omega) [ev_tmp, ev_const, get_of, upd_same, upd_ne, Tryd.underlying3, Tryd.underlying83, Tryd.underlying5, Tryd.underlying29, Tryd.underlying22]; done) | (apply inK_i64; omega) | (apply inK_u64; omega)) only [op_len, cond_true, cond_false, pick_on, stepC_if, goC_true, goC_false, guard_tt, guard_tf, guard_ft, guard_ff, slot_zero, slot_succ, put_some, runC_cons, runC_nil, stepC_free, dstC_dst, dstC_none, thenC_some, cop_assign, cop_move, cop_conv, cop_bin, cop_un, cop_pick, cop_index, cop_indexAddr, cop_load, cop_store, cop_alloc, cop_box, cop_build, cop_slice, cop_s2a, cop_field, cop_fieldAddr, cop_extract, cop_nilCheck, cop_call, cop_builtin, cop_buildSlice, ev_tmp, ev_const, ev_global, ev_func, put_of, get_of, upd_same, upd_ne, List.toList_toArray, List.map_cons, List.map_nil, some_map, none_map, ti3, ti83, ti5, ti29, ti22]
    with_reducible rfl
  simp only [onN, onB]
  repeat apply W.seq
  apply W.block
  refine W.loop (fun m fr s => ∃ (t : Nat) (h : Nat → Value) (g' : Nat → Fam) (rd' : List Nat), t ≤ 64 ∧ m = 64 - t ∧ fr = Fr.of 79 h ∧ s = St (n + 2) g' lim rd' wr ∧ h 0 = .slice (some (mkA fb ub off)) len cap ∧ h 2 = .pointer (some (mkA n (n * 1024 + 0) 0)) ∧ h 3 = .pointer (some (mkA (n + 1) ((n + 1) * 1024 + 0) 0)) ∧ h 11 = .int .i64 (t : Int) ∧ g' (n + 1) = ⟨false, [((n + 1) * 1024 + 0, wvs (sched bs t))], none⟩ ∧ g' n = ⟨false, [(n * 1024 + 0, List.replicate 64 (vw 0))], none⟩ ∧ (∀ i, i < n → g' i = g i) ∧ (∀ x, x ∈ rd' → x ∈ rd ∨ (x = fb ∧ x < lim))) ?_ (64 - 0) _ _ ⟨0, _, _, rd, by omega, rfl, rfl, rfl, ?_, ?_, ?_, ?_, ?_, ?_, ?_, fun x hx => .inl hx⟩
  case refine_2 => simp (disch := omega) only [upd_same, upd_ne]
  case refine_3 => simp (disch := omega) only [upd_same, upd_ne]
  case refine_4 => simp (disch := omega) only [upd_same, upd_ne]
  case refine_5 => simp (disch := omega) only [upd_same, upd_ne]; rfl
  case refine_6 => rw [fupd_same]; rfl
  case refine_7 => rw [fupd_ne _ _ _ _ (by omega), fupd_same]; rfl
  case refine_8 => intro i hi; rw [fupd_ne _ _ _ _ (by omega), fupd_ne _ _ _ _ (by omega)]
  rintro m fr s ⟨t, h, g', rd', ht, rfl, rfl, rfl, h0, h2, h3, h11, hw, hz, hg, hrd⟩
  repeat apply W.seq
  apply W.region
  · simp (disch := first | omega | (simp (disch := omega) [ev_tmp, ev_const, get_of, upd_same, upd_ne, h11, Tryd.underlying3, Tryd.underlying83, Tryd.underlying5, Tryd.underlying29, Tryd.underlying22]; done) | (apply inK_i64; omega) | (apply inK_u64; omega)) only [op_len, cond_true, cond_false, pick_on, stepC_if, goC_true, goC_false, guard_tt, guard_tf, guard_ft, guard_ff, slot_zero, slot_succ, put_some, runC_cons, runC_nil, stepC_free, dstC_dst, dstC_none, thenC_some, cop_assign, cop_move, cop_conv, cop_bin, cop_un, cop_pick, cop_index, cop_indexAddr, cop_load, cop_store, cop_alloc, cop_box, cop_build, cop_slice, cop_s2a, cop_field, cop_fieldAddr, cop_extract, cop_nilCheck, cop_call, cop_builtin, cop_buildSlice, ev_tmp, ev_const, ev_global, ev_func, put_of, get_of, upd_same, upd_ne, List.toList_toArray, List.map_cons, List.map_nil, some_map, none_map, ti3, ti83, ti5, ti29, ti22, oi_lss, h11]
    with_reducible rfl
  simp only [onN, onB]
  by_cases hlt : (t : Int) < 64
  case neg =>
    repeat apply W.seq
    refine W.cond (b := false) ?_ ?_
    · simp (disch := omega) only [ev_tmp, get_of, upd_same, upd_ne, hlt, decide_true, decide_false]
    simp only [cond_true, cond_false]
    apply W.exit
    simp only [onN, onB, Nat.beq_refl, cond_true, cond_false, bexit]
    have hte : t = 64 := by omega
    subst hte
    have L1 := ld_all (Γ := EE ax) (n := n + 2) (lim := lim) (rd := rd') (wr := wr) (ti75 ax) rfl (g := g') (f := n + 1) (u := (n + 1) * 1024 + 0) (cs := wvs (sched bs 64)) (by rw [hw]; exact rowOf_one) (by rw [wvs_len, sched_len])
    rw [ins_ge _ (by omega)] at L1
    have S1 := st_all (Γ := EE ax) (n := n + 2) (lim := lim) (rd := rd') (wr := wr) (ti75 ax) (f := n) (u := n * 1024 + 0) (vs := wvs (sched bs 64)) hz (by rw [wvs_len, sched_len]) (by simp) (wvs_one _)
    rw [ins_ge _ (by omega)] at S1
    repeat apply W.seq
    apply W.region
    · simp (disch := first | omega | (simp (disch := omega) [ev_tmp, ev_const, get_of, upd_same, upd_ne, h2, h3, Tryd.underlying3, Tryd.underlying83, Tryd.underlying5, Tryd.underlying29, Tryd.underlying22]; done) | (apply inK_i64; omega) | (apply inK_u64; omega)) only [op_len, cond_true, cond_false, pick_on, stepC_if, goC_true, goC_false, guard_tt, guard_tf, guard_ft, guard_ff, slot_zero, slot_succ, put_some, runC_cons, runC_nil, stepC_free, dstC_dst, dstC_none, thenC_some, cop_assign, cop_move, cop_conv, cop_bin, cop_un, cop_pick, cop_index, cop_indexAddr, cop_load, cop_store, cop_alloc, cop_box, cop_build, cop_slice, cop_s2a, cop_field, cop_fieldAddr, cop_extract, cop_nilCheck, cop_call, cop_builtin, cop_buildSlice, ev_tmp, ev_const, ev_global, ev_func, put_of, get_of, upd_same, upd_ne, List.toList_toArray, List.map_cons, List.map_nil, some_map, none_map, ti3, ti83, ti5, ti29, ti22, h2, h3, L1, cells_agg, S1, stepC_free]
      with_reducible rfl
    simp only [onN, onB]
    apply W.ret
    refine ⟨.inr rfl, [.agg (wvs (sched bs 64)).toArray], St (n + 2) (fupd g' n ⟨false, [(n * 1024 + 0, wvs (sched bs 64))], none⟩) lim rd' wr, ?_, rfl, n + 2, _, rd', rfl, by omega, by omega, fun i hi => by rw [fupd_ne _ _ _ _ (by omega)]; exact hg i hi, hrd⟩
    have L2 := ld_all (Γ := EE ax) (n := n + 2) (lim := lim) (rd := rd') (wr := wr) (ti75 ax) rfl (g := fupd g' n ⟨false, [(n * 1024 + 0, wvs (sched bs 64))], none⟩) (f := n) (u := n * 1024 + 0) (cs := wvs (sched bs 64)) (by rw [fupd_same]; exact rowOf_one) (by rw [wvs_len, sched_len])
    rw [ins_ge _ (by omega)] at L2
    simp (disch := first | omega | (simp (disch := omega) only [get_of, upd_same, upd_ne, h2]; done)) only [resC_cell (ad := mkA n (n * 1024 + 0) 0), resC_nil, Tryd.results77, get_of, upd_same, upd_ne, h2, L2, resThen_some, resAdd_some]
  have htl : t < 64 := by omega
  repeat apply W.seq
  refine W.cond (b := true) ?_ ?_
  · simp (disch := omega) only [ev_tmp, get_of, upd_same, upd_ne, hlt, decide_true, decide_false]
  simp only [cond_true, cond_false]
  apply W.skip
  simp only [onN, onB]
  repeat apply W.seq
  apply W.block
  repeat apply W.seq
  apply W.region
  · simp (disch := first | omega | (simp (disch := omega) [ev_tmp, ev_const, get_of, upd_same, upd_ne, h11, Tryd.underlying3, Tryd.underlying83, Tryd.underlying5, Tryd.underlying29, Tryd.underlying22]; done) | (apply inK_i64; omega) | (apply inK_u64; omega)) only [op_len, cond_true, cond_false, pick_on, stepC_if, goC_true, goC_false, guard_tt, guard_tf, guard_ft, guard_ff, slot_zero, slot_succ, put_some, runC_cons, runC_nil, stepC_free, dstC_dst, dstC_none, thenC_some, cop_assign, cop_move, cop_conv, cop_bin, cop_un, cop_pick, cop_index, cop_indexAddr, cop_load, cop_store, cop_alloc, cop_box, cop_build, cop_slice, cop_s2a, cop_field, cop_fieldAddr, cop_extract, cop_nilCheck, cop_call, cop_builtin, cop_buildSlice, ev_tmp, ev_const, ev_global, ev_func, put_of, get_of, upd_same, upd_ne, List.toList_toArray, List.map_cons, List.map_nil, some_map, none_map, ti3, ti83, ti5, ti29, ti22, h11]
    with_reducible rfl
  simp only [onN, onB]
  repeat apply W.seq
  apply W.region
  · simp (disch := first | omega | (simp (disch := omega) [ev_tmp, ev_const, get_of, upd_same, upd_ne, Tryd.underlying3, Tryd.underlying83, Tryd.underlying5, Tryd.underlying29, Tryd.underlying22]; done) | (apply inK_i64; omega) | (apply inK_u64; omega)) only [op_len, cond_true, cond_false, pick_on, stepC_if, goC_true, goC_false, guard_tt, guard_tf, guard_ft, guard_ff, slot_zero, slot_succ, put_some, runC_cons, runC_nil, stepC_free, dstC_dst, dstC_none, thenC_some, cop_assign, cop_move, cop_conv, cop_bin, cop_un, cop_pick, cop_index, cop_indexAddr, cop_load, cop_store, cop_alloc, cop_box, cop_build, cop_slice, cop_s2a, cop_field, cop_fieldAddr, cop_extract, cop_nilCheck, cop_call, cop_builtin, cop_buildSlice, ev_tmp, ev_const, ev_global, ev_func, put_of, get_of, upd_same, upd_ne, List.toList_toArray, List.map_cons, List.map_nil, some_map, none_map, ti3, ti83, ti5, ti29, ti22, oi_lss]
    with_reducible rfl
  simp only [onN, onB]
  by_cases h16 : (t : Int) < 16
  case pos =>
    repeat apply W.seq
    refine W.cond (b := true) ?_ ?_
    · simp (disch := omega) only [ev_tmp, get_of, upd_same, upd_ne, h16, decide_true, decide_false]
    simp only [cond_true, cond_false]
    have c1 : (4 : Int) * (t : Int) = ((4 * t : Nat) : Int) := by omega
    have c2 : ((4 * t : Nat) : Int) + 4 = ((4 * t + 4 : Nat) : Int) := by omega
    have c4 : 4 * t + 4 - 4 * t = 4 := by omega
    have hbd := bounds_lh (len := len) (cap := cap) (natOf_nat .i64 (4 * t)) (natOf_nat .i64 (4 * t + 4)) (by omega) (by omega)
    repeat apply W.seq
    apply W.region
    · simp (disch := first | omega | (simp (disch := omega) [ev_tmp, ev_const, get_of, upd_same, upd_ne, h0, h11, Tryd.underlying3, Tryd.underlying83, Tryd.underlying5, Tryd.underlying29, Tryd.underlying22]; done) | (apply inK_i64; omega) | (apply inK_u64; omega) | (rw [c1, c2]; apply inK_i64; omega)) only [op_len, cond_true, cond_false, pick_on, stepC_if, goC_true, goC_false, guard_tt, guard_tf, guard_ft, guard_ff, slot_zero, slot_succ, put_some, runC_cons, runC_nil, stepC_free, dstC_dst, dstC_none, thenC_some, cop_assign, cop_move, cop_conv, cop_bin, cop_un, cop_pick, cop_index, cop_indexAddr, cop_load, cop_store, cop_alloc, cop_box, cop_build, cop_slice, cop_s2a, cop_field, cop_fieldAddr, cop_extract, cop_nilCheck, cop_call, cop_builtin, cop_buildSlice, ev_tmp, ev_const, ev_global, ev_func, put_of, get_of, upd_same, upd_ne, List.toList_toArray, List.map_cons, List.map_nil, some_map, none_map, ti3, ti83, ti5, ti29, ti22, h0, h11, oi_mul, c1, oi_add, c2, slice_sl (ti22 ax) (ti5 ax) hbd hb.tag, Nat.mul_one, c4, len_sl (ti22 ax), lit_cast]
      with_reducible rfl
    simp only [onN, onB]
    repeat apply W.seq
    apply W.block
    refine W.loop (fun m fr s => ∃ (j : Nat) (h' : Nat → Value) (g2 : Nat → Fam) (rd2 : List Nat), j ≤ 4 ∧ m = 4 - j ∧ fr = Fr.of 79 h' ∧ s = St (n + 2) g2 lim rd2 wr ∧ h' 0 = .slice (some (mkA fb ub off)) len cap ∧ h' 2 = .pointer (some (mkA n (n * 1024 + 0) 0)) ∧ h' 3 = .pointer (some (mkA (n + 1) ((n + 1) * 1024 + 0) 0)) ∧ h' 4 = .int .i64 (t : Int) ∧ h' 11 = .int .i64 (t : Int) ∧ h' 22 = .slice (some (mkA fb ub (off + 4 * t))) 4 (cap - 4 * t) ∧ h' 23 = .int .i64 4 ∧ h' 24 = .int .i64 (j : Int) ∧ g2 (n + 1) = ⟨false, [((n + 1) * 1024 + 0, wvs ((sched bs t).set t (word bs t j)))], none⟩ ∧ g2 n = ⟨false, [(n * 1024 + 0, List.replicate 64 (vw 0))], none⟩ ∧ (∀ i, i < n → g2 i = g i) ∧ (∀ x, x ∈ rd2 → x ∈ rd ∨ (x = fb ∧ x < lim))) ?_ (4 - 0) _ _ ⟨0, _, g', rd', by omega, rfl, rfl, rfl, ?_, ?_, ?_, ?_, ?_, ?_, ?_, ?_, ?_, hz, hg, hrd⟩
    case refine_2 => simp (disch := omega) only [upd_same, upd_ne, h0]
    case refine_3 => simp (disch := omega) only [upd_same, upd_ne, h2]
    case refine_4 => simp (disch := omega) only [upd_same, upd_ne, h3]
    case refine_5 => simp (disch := omega) only [upd_same, upd_ne]
    case refine_6 => simp (disch := omega) only [upd_same, upd_ne, h11]
    case refine_7 => simp (disch := omega) only [upd_same, upd_ne]
    case refine_8 => simp (disch := omega) only [upd_same, upd_ne]
    case refine_9 => simp (disch := omega) only [upd_same, upd_ne]; rfl
    case refine_10 => rw [hw, sched_set0 bs t htl]
    clear h0 h2 h3 h11 hw hz hg hrd
    rintro m fr s ⟨j, h', g2, rd2, hj, rfl, rfl, rfl, h0, h2, h3, h4, h11, h22, h23, h24, hw, hz, hg, hrd⟩
    repeat apply W.seq
    apply W.region
    · simp (disch := first | omega | (simp (disch := omega) [ev_tmp, ev_const, get_of, upd_same, upd_ne, h23, h24, Tryd.underlying3, Tryd.underlying83, Tryd.underlying5, Tryd.underlying29, Tryd.underlying22]; done) | (apply inK_i64; omega) | (apply inK_u64; omega)) only [op_len, cond_true, cond_false, pick_on, stepC_if, goC_true, goC_false, guard_tt, guard_tf, guard_ft, guard_ff, slot_zero, slot_succ, put_some, runC_cons, runC_nil, stepC_free, dstC_dst, dstC_none, thenC_some, cop_assign, cop_move, cop_conv, cop_bin, cop_un, cop_pick, cop_index, cop_indexAddr, cop_load, cop_store, cop_alloc, cop_box, cop_build, cop_slice, cop_s2a, cop_field, cop_fieldAddr, cop_extract, cop_nilCheck, cop_call, cop_builtin, cop_buildSlice, ev_tmp, ev_const, ev_global, ev_func, put_of, get_of, upd_same, upd_ne, List.toList_toArray, List.map_cons, List.map_nil, some_map, none_map, ti3, ti83, ti5, ti29, ti22, oi_lss, h23, h24]
      with_reducible rfl
    simp only [onN, onB]
    by_cases hlj : (j : Int) < 4
    case neg =>
      repeat apply W.seq
      refine W.cond (b := false) ?_ ?_
      · simp (disch := omega) only [ev_tmp, get_of, upd_same, upd_ne, hlj, decide_true, decide_false]
      simp only [cond_true, cond_false]
      apply W.exit
      simp only [onN, onB, Nat.beq_refl, cond_true, cond_false, bexit]
      apply W.exit
      simp only [onN, onB, Nat.beq_refl, cond_true]
      repeat apply W.seq
      apply W.region
      · simp (disch := first | omega | (simp (disch := omega) [ev_tmp, ev_const, get_of, upd_same, upd_ne, h11, Tryd.underlying3, Tryd.underlying83, Tryd.underlying5, Tryd.underlying29, Tryd.underlying22]; done) | (apply inK_i64; omega) | (apply inK_u64; omega)) only [op_len, cond_true, cond_false, pick_on, stepC_if, goC_true, goC_false, guard_tt, guard_tf, guard_ft, guard_ff, slot_zero, slot_succ, put_some, runC_cons, runC_nil, stepC_free, dstC_dst, dstC_none, thenC_some, cop_assign, cop_move, cop_conv, cop_bin, cop_un, cop_pick, cop_index, cop_indexAddr, cop_load, cop_store, cop_alloc, cop_box, cop_build, cop_slice, cop_s2a, cop_field, cop_fieldAddr, cop_extract, cop_nilCheck, cop_call, cop_builtin, cop_buildSlice, ev_tmp, ev_const, ev_global, ev_func, put_of, get_of, upd_same, upd_ne, List.toList_toArray, List.map_cons, List.map_nil, some_map, none_map, ti3, ti83, ti5, ti29, ti22, oi_add, h11]
        with_reducible rfl
      simp only [onN, onB]
      have hj4 : j = 4 := by omega
      subst hj4
      refine ⟨64 - (t + 1), by omega, t + 1, _, g2, rd2, by omega, rfl, rfl, rfl, ?_, ?_, ?_, ?_, ?_, hz, hg, hrd⟩
      · simp (disch := omega) only [upd_same, upd_ne, h0]
      · simp (disch := omega) only [upd_same, upd_ne, h2]
      · simp (disch := omega) only [upd_same, upd_ne, h3]
      · simp (disch := omega) only [upd_same, upd_ne]; rfl
      · rw [hw, sched, if_pos (by omega)]
    have hjl : j < 4 := by omega
    repeat apply W.seq
    refine W.cond (b := true) ?_ ?_
    · simp (disch := omega) only [ev_tmp, get_of, upd_same, upd_ne, hlj, decide_true, decide_false]
    simp only [cond_true, cond_false]
    apply W.skip
    simp only [onN, onB]
    have hbt := hcs (4 * t + j) (by omega)
    rw [show off + (4 * t + j) = off + 4 * t + j by omega] at hbt
    have hlw : ((sched bs t).set t (word bs t j)).length = 64 := by rw [List.length_set, sched_len]
    have B1 := ld_one (n := n + 2) (lim := lim) (rd := rd2) (wr := wr) (ti5 ax) rfl (g := g2) (f := fb) (u := ub) (off := off + 4 * t + j) (cs := cs) (by rw [hg fb hbl]; exact hrow) hbt
    have A1 := ld_one (n := n + 2) (lim := lim) (rd := ins lim rd2 fb) (wr := wr) (ti29 ax) rfl (g := g2) (f := n + 1) (u := (n + 1) * 1024 + 0) (off := 0 + t) (cs := wvs ((sched bs t).set t (word bs t j))) (by rw [hw]; exact rowOf_one) (by rw [Nat.zero_add]; exact wvs_get (by omega))
    rw [ins_ge (f := n + 1) _ (by omega), getD_set_same (by rw [sched_len]; omega)] at A1
    have C1 := fun v hv => st_one (n := n + 2) (lim := lim) (rd := ins lim rd2 fb) (wr := wr) (ti29 ax) (g := g2) (f := n + 1) (u := (n + 1) * 1024 + 0) (off := 0 + t) (v := v) hw (by rw [wvs_len]; omega) hv
    simp only [ins_ge (f := n + 1) _ (show lim ≤ n + 1 by omega)] at C1
    repeat apply W.seq
    apply W.block
    repeat apply W.seq
    apply W.region
    · simp (disch := first | omega | (simp (disch := omega) [ev_tmp, ev_const, get_of, upd_same, upd_ne, h22, h24, Tryd.underlying3, Tryd.underlying83, Tryd.underlying5, Tryd.underlying29, Tryd.underlying22]; done) | (apply inK_i64; omega) | (apply inK_u64; omega)) only [op_len, cond_true, cond_false, pick_on, stepC_if, goC_true, goC_false, guard_tt, guard_tf, guard_ft, guard_ff, slot_zero, slot_succ, put_some, runC_cons, runC_nil, stepC_free, dstC_dst, dstC_none, thenC_some, cop_assign, cop_move, cop_conv, cop_bin, cop_un, cop_pick, cop_index, cop_indexAddr, cop_load, cop_store, cop_alloc, cop_box, cop_build, cop_slice, cop_s2a, cop_field, cop_fieldAddr, cop_extract, cop_nilCheck, cop_call, cop_builtin, cop_buildSlice, ev_tmp, ev_const, ev_global, ev_func, put_of, get_of, upd_same, upd_ne, List.toList_toArray, List.map_cons, List.map_nil, some_map, none_map, ti3, ti83, ti5, ti29, ti22, h22, h24, natOf_nat, idx_sl (ti22 ax) (ti5 ax) hjl, B1]
      with_reducible rfl
    simp only [onN, onB]
    repeat apply W.seq
    apply W.region
    · simp (disch := first | omega | (simp (disch := omega) [ev_tmp, ev_const, get_of, upd_same, upd_ne, h3, h4, Tryd.underlying3, Tryd.underlying83, Tryd.underlying5, Tryd.underlying29, Tryd.underlying22]; done) | (apply inK_i64; omega) | (apply inK_u64; omega)) only [op_len, cond_true, cond_false, pick_on, stepC_if, goC_true, goC_false, guard_tt, guard_tf, guard_ft, guard_ff, slot_zero, slot_succ, put_some, runC_cons, runC_nil, stepC_free, dstC_dst, dstC_none, thenC_some, cop_assign, cop_move, cop_conv, cop_bin, cop_un, cop_pick, cop_index, cop_indexAddr, cop_load, cop_store, cop_alloc, cop_box, cop_build, cop_slice, cop_s2a, cop_field, cop_fieldAddr, cop_extract, cop_nilCheck, cop_call, cop_builtin, cop_buildSlice, ev_tmp, ev_const, ev_global, ev_func, put_of, get_of, upd_same, upd_ne, List.toList_toArray, List.map_cons, List.map_nil, some_map, none_map, ti3, ti83, ti5, ti29, ti22, h3, h4, natOf_nat, idx_arr (ti75 ax) (ti29 ax) htl, A1, bw_shl_l, conv_bw (ti5 ax) (ti29 ax), bw_or, cells_vw, C1 _ (vw_one _)]
      with_reducible rfl
    simp only [onN, onB]
    repeat apply W.seq
    apply W.region
    · simp (disch := first | omega | (simp (disch := omega) [ev_tmp, ev_const, get_of, upd_same, upd_ne, h24, Tryd.underlying3, Tryd.underlying83, Tryd.underlying5, Tryd.underlying29, Tryd.underlying22]; done) | (apply inK_i64; omega) | (apply inK_u64; omega)) only [op_len, cond_true, cond_false, pick_on, stepC_if, goC_true, goC_false, guard_tt, guard_tf, guard_ft, guard_ff, slot_zero, slot_succ, put_some, runC_cons, runC_nil, stepC_free, dstC_dst, dstC_none, thenC_some, cop_assign, cop_move, cop_conv, cop_bin, cop_un, cop_pick, cop_index, cop_indexAddr, cop_load, cop_store, cop_alloc, cop_box, cop_build, cop_slice, cop_s2a, cop_field, cop_fieldAddr, cop_extract, cop_nilCheck, cop_call, cop_builtin, cop_buildSlice, ev_tmp, ev_const, ev_global, ev_func, put_of, get_of, upd_same, upd_ne, List.toList_toArray, List.map_cons, List.map_nil, some_map, none_map, ti3, ti83, ti5, ti29, ti22, oi_add, h24]
      with_reducible rfl
    simp only [onN, onB]
    refine ⟨4 - (j + 1), by omega, j + 1, _, _, _, by omega, rfl, rfl, rfl, ?_, ?_, ?_, ?_, ?_, ?_, ?_, ?_, ?_, ?_, ?_, ?_⟩
    · simp (disch := omega) only [upd_same, upd_ne, h0]
    · simp (disch := omega) only [upd_same, upd_ne, h2]
    · simp (disch := omega) only [upd_same, upd_ne, h3]
    · simp (disch := omega) only [upd_same, upd_ne, h4]
    · simp (disch := omega) only [upd_same, upd_ne, h11]
    · simp (disch := omega) only [upd_same, upd_ne, h22]
    · simp (disch := omega) only [upd_same, upd_ne, h23]
    · simp (disch := omega) only [upd_same, upd_ne]; rfl
    · rw [fupd_same, Nat.zero_add, wvs_set, List.set_set]; rfl
    · rw [fupd_ne _ _ _ _ (by omega)]; exact hz
    · intro i hi; rw [fupd_ne _ _ _ _ (by omega)]; exact hg i hi
    · intro x hx
      rcases mem_ins hx with hx | hx
      · exact hrd x hx
      · exact .inr hx
  repeat apply W.seq
  refine W.cond (b := false) ?_ ?_
  · simp (disch := omega) only [ev_tmp, get_of, upd_same, upd_ne, h16, decide_true, decide_false]
  simp only [cond_true, cond_false]
  apply W.skip
  simp only [onN, onB]
  have ht16 : 16 ≤ t := by omega
  have c15 : (t : Int) - 15 = ((t - 15 : Nat) : Int) := by omega
  have c2 : (t : Int) - 2 = ((t - 2 : Nat) : Int) := by omega
  have c16 : (t : Int) - 16 = ((t - 16 : Nat) : Int) := by omega
  have c7 : (t : Int) - 7 = ((t - 7 : Nat) : Int) := by omega
  have LQ := fun (lim' : Nat) (k : Nat) (hk : k < 64) => ld_q (n := n + 2) (ti29 ax) rfl (g := g') (f := n + 1) (u := (n + 1) * 1024 + 0) (off := 0 + k) (cs := wvs (sched bs t)) (by rw [hw]; exact rowOf_one) (by rw [Nat.zero_add]; exact wvs_get (by rw [sched_len]; exact hk)) (by omega)
  have IG := fun l => ins_ge (m := lim) (f := n + 1) l (by omega)
  repeat apply W.seq
  apply W.quiet
  · simp (disch := first | omega | (simp (disch := omega) [ev_tmp, ev_const, get_of, upd_same, upd_ne, h3, h11, Tryd.underlying3, Tryd.underlying83, Tryd.underlying5, Tryd.underlying29, Tryd.underlying22]; done) | (apply inK_i64; omega) | (apply inK_u64; omega)) only [op_len, cond_true, cond_false, pick_on, stepC_if, goC_true, goC_false, guard_tt, guard_tf, guard_ft, guard_ff, slot_zero, slot_succ, put_some, runC_cons, runC_nil, stepC_free, dstC_dst, dstC_none, thenC_some, cop_assign, cop_move, cop_conv, cop_bin, cop_un, cop_pick, cop_index, cop_indexAddr, cop_load, cop_store, cop_alloc, cop_box, cop_build, cop_slice, cop_s2a, cop_field, cop_fieldAddr, cop_extract, cop_nilCheck, cop_call, cop_builtin, cop_buildSlice, ev_tmp, ev_const, ev_global, ev_func, put_of, get_of, upd_same, upd_ne, List.toList_toArray, List.map_cons, List.map_nil, some_map, none_map, ti3, ti83, ti5, ti29, ti22, quietC_cons, quietC_nil, inner_st, thenQ_same, thenQ_rd, h3, h11, oi_sub, c15, c2, natOf_nat, idx_arr (ti75 ax) (ti29 ax) (show t - 15 < 64 by omega), idx_arr (ti75 ax) (ti29 ax) (show t - 2 < 64 by omega), LQ 0 (t - 15) (by omega), LQ 0 (t - 2) (by omega), IG]
    with_reducible rfl
  simp only [onN, onB]
  have R7 : ∀ x s, callR Tryd.prog (EE ax) 84 [vw x, .int .i64 (-7)] s = some (vw (rotr32 x 7), s) := fun x s => rotl_run ax hr x 7 (by omega) (by omega) s
  have R18 : ∀ x s, callR Tryd.prog (EE ax) 84 [vw x, .int .i64 (-18)] s = some (vw (rotr32 x 18), s) := fun x s => rotl_run ax hr x 18 (by omega) (by omega) s
  have R17 : ∀ x s, callR Tryd.prog (EE ax) 84 [vw x, .int .i64 (-17)] s = some (vw (rotr32 x 17), s) := fun x s => rotl_run ax hr x 17 (by omega) (by omega) s
  have R19 : ∀ x s, callR Tryd.prog (EE ax) 84 [vw x, .int .i64 (-19)] s = some (vw (rotr32 x 19), s) := fun x s => rotl_run ax hr x 19 (by omega) (by omega) s
  repeat apply W.seq
  apply W.region
  · simp (disch := first | omega | (simp (disch := omega) [ev_tmp, ev_const, get_of, upd_same, upd_ne, Tryd.underlying3, Tryd.underlying83, Tryd.underlying5, Tryd.underlying29, Tryd.underlying22]; done) | (apply inK_i64; omega) | (apply inK_u64; omega)) only [op_len, cond_true, cond_false, pick_on, stepC_if, goC_true, goC_false, guard_tt, guard_tf, guard_ft, guard_ff, slot_zero, slot_succ, put_some, runC_cons, runC_nil, stepC_free, dstC_dst, dstC_none, thenC_some, cop_assign, cop_move, cop_conv, cop_bin, cop_un, cop_pick, cop_index, cop_indexAddr, cop_load, cop_store, cop_alloc, cop_box, cop_build, cop_slice, cop_s2a, cop_field, cop_fieldAddr, cop_extract, cop_nilCheck, cop_call, cop_builtin, cop_buildSlice, ev_tmp, ev_const, ev_global, ev_func, put_of, get_of, upd_same, upd_ne, List.toList_toArray, List.map_cons, List.map_nil, some_map, none_map, ti3, ti83, ti5, ti29, ti22, R7, R18, bw_xor, bw_shr_l]
    with_reducible rfl
  simp only [onN, onB]
  repeat apply W.seq
  apply W.region
  · simp (disch := first | omega | (simp (disch := omega) [ev_tmp, ev_const, get_of, upd_same, upd_ne, Tryd.underlying3, Tryd.underlying83, Tryd.underlying5, Tryd.underlying29, Tryd.underlying22]; done) | (apply inK_i64; omega) | (apply inK_u64; omega)) only [op_len, cond_true, cond_false, pick_on, stepC_if, goC_true, goC_false, guard_tt, guard_tf, guard_ft, guard_ff, slot_zero, slot_succ, put_some, runC_cons, runC_nil, stepC_free, dstC_dst, dstC_none, thenC_some, cop_assign, cop_move, cop_conv, cop_bin, cop_un, cop_pick, cop_index, cop_indexAddr, cop_load, cop_store, cop_alloc, cop_box, cop_build, cop_slice, cop_s2a, cop_field, cop_fieldAddr, cop_extract, cop_nilCheck, cop_call, cop_builtin, cop_buildSlice, ev_tmp, ev_const, ev_global, ev_func, put_of, get_of, upd_same, upd_ne, List.toList_toArray, List.map_cons, List.map_nil, some_map, none_map, ti3, ti83, ti5, ti29, ti22, R17, R19, bw_xor, bw_shr_l]
    with_reducible rfl
  simp only [onN, onB]
  have C1 := fun v hv => st_q (n := n + 2) (ti29 ax) (g := g') (f := n + 1) (u := (n + 1) * 1024 + 0) (off := 0 + t) (v := v) hw (by rw [wvs_len, sched_len]; omega) hv (by omega)
  repeat apply W.seq
  apply W.last
  · kernel_rfl
  · simp (disch := first | omega | (simp (disch := omega) [ev_tmp, ev_const, get_of, upd_same, upd_ne, h3, h11, Tryd.underlying3, Tryd.underlying83, Tryd.underlying5, Tryd.underlying29, Tryd.underlying22]; done) | (apply inK_i64; omega) | (apply inK_u64; omega)) only [op_len, cond_true, cond_false, pick_on, stepC_if, goC_true, goC_false, guard_tt, guard_tf, guard_ft, guard_ff, slot_zero, slot_succ, put_some, runC_cons, runC_nil, stepC_free, dstC_dst, dstC_none, thenC_some, cop_assign, cop_move, cop_conv, cop_bin, cop_un, cop_pick, cop_index, cop_indexAddr, cop_load, cop_store, cop_alloc, cop_box, cop_build, cop_slice, cop_s2a, cop_field, cop_fieldAddr, cop_extract, cop_nilCheck, cop_call, cop_builtin, cop_buildSlice, ev_tmp, ev_const, ev_global, ev_func, put_of, get_of, upd_same, upd_ne, List.toList_toArray, List.map_cons, List.map_nil, some_map, none_map, ti3, ti83, ti5, ti29, ti22, quietL_cons, quietL_one, inner_st, thenL_same, thenL_rd, lastL_some, insAll_nil, insAll_cons, h3, h11, oi_sub, c16, c7, natOf_nat, idx_arr (ti75 ax) (ti29 ax) (show t - 16 < 64 by omega), idx_arr (ti75 ax) (ti29 ax) (show t - 7 < 64 by omega), idx_arr (ti75 ax) (ti29 ax) htl, LQ 0 (t - 16) (by omega), LQ 0 (t - 7) (by omega), IG, bw_add, cells_vw, C1 _ (vw_one _)]
    with_reducible rfl
  simp only [onN, onB]
  repeat apply W.seq
  apply W.region
  · simp (disch := first | omega | (simp (disch := omega) [ev_tmp, ev_const, get_of, upd_same, upd_ne, h11, Tryd.underlying3, Tryd.underlying83, Tryd.underlying5, Tryd.underlying29, Tryd.underlying22]; done) | (apply inK_i64; omega) | (apply inK_u64; omega)) only [op_len, cond_true, cond_false, pick_on, stepC_if, goC_true, goC_false, guard_tt, guard_tf, guard_ft, guard_ff, slot_zero, slot_succ, put_some, runC_cons, runC_nil, stepC_free, dstC_dst, dstC_none, thenC_some, cop_assign, cop_move, cop_conv, cop_bin, cop_un, cop_pick, cop_index, cop_indexAddr, cop_load, cop_store, cop_alloc, cop_box, cop_build, cop_slice, cop_s2a, cop_field, cop_fieldAddr, cop_extract, cop_nilCheck, cop_call, cop_builtin, cop_buildSlice, ev_tmp, ev_const, ev_global, ev_func, put_of, get_of, upd_same, upd_ne, List.toList_toArray, List.map_cons, List.map_nil, some_map, none_map, ti3, ti83, ti5, ti29, ti22, oi_add, h11]
    with_reducible rfl
  simp only [onN, onB]
  refine ⟨64 - (t + 1), by omega, t + 1, _, _, rd', by omega, rfl, rfl, rfl, ?_, ?_, ?_, ?_, ?_, ?_, ?_, hrd⟩
  · simp (disch := omega) only [upd_same, upd_ne, h0]
  · simp (disch := omega) only [upd_same, upd_ne, h2]
  · simp (disch := omega) only [upd_same, upd_ne, h3]
  · simp (disch := omega) only [upd_same, upd_ne]; rfl
  · rw [fupd_same, Nat.zero_add, wvs_set, sched, if_neg (by omega)]; rfl
  · rw [fupd_ne _ _ _ _ (by omega)]; exact hz
  · intro i hi; rw [fupd_ne _ _ _ _ (by omega)]; exact hg i hi
end Go.Proofs.YtcmfoipnoejmlaaDoor
namespace Go.Proofs.YtcmfoipnoejmlaaDoor
open Go Go.RowKit
set_option linter.unusedSimpArgs false
set_option linter.unusedVariables false
def rx (e : List UInt32) (k w : UInt32) : UInt32 := e.getD 3 0 + mix32 (e.getD 0 0) 6 11 25 + ((e.getD 0 0 &&& e.getD 1 0) ^^^ (~~~(e.getD 0 0) &&& e.getD 2 0)) + k + w
def ry (v : List UInt32) : UInt32 := mix32 (v.getD 0 0) 2 13 22 + ((v.getD 0 0 &&& v.getD 1 0) ^^^ (v.getD 0 0 &&& v.getD 2 0) ^^^ (v.getD 1 0 &&& v.getD 2 0))
/-- v and e behind t rounds -/
def rds (s w kt : List UInt32) : Nat → List UInt32 × List UInt32
  | 0 => (s.take 4, s.drop 4)
  | t + 1 => let p := rds s w kt t; let x := rx p.2 (kt.getD t 0) (w.getD t 0)
    ([x + ry p.1, p.1.getD 0 0, p.1.getD 1 0, p.1.getD 2 0], [p.1.getD 3 0 + x, p.2.getD 0 0, p.2.getD 1 0, p.2.getD 2 0])
def fin (s v e : List UInt32) : Nat → List UInt32
  | 0 => s
  | i + 1 => let p := fin s v e i; let q := p.set i (p.getD i 0 + v.getD i 0)
    q.set (i + 4) (q.getD (i + 4) 0 + e.getD i 0)
def comp (kt s : List UInt32) (bs : List UInt8) : List UInt32 := let p := rds s (sched bs 64) kt 64; fin s p.1 p.2 4
theorem rds_len (s w kt : List UInt32) (hs : s.length = 8) : ∀ t, (rds s w kt t).1.length = 4 ∧ (rds s w kt t).2.length = 4
  | 0 => by simp [rds, hs]
  | t + 1 => ⟨rfl, rfl⟩
theorem fin_len (s v e : List UInt32) : ∀ i, (fin s v e i).length = s.length
  | 0 => rfl
  | i + 1 => by rw [fin]; simp [fin_len s v e i]
theorem comp_len (kt s : List UInt32) (bs : List UInt8) : (comp kt s bs).length = s.length := fin_len _ _ _ _
set_option maxHeartbeats 4000000 in
theorem comp_run (ax : Axs) (hp : Plain ax) (hax : ax 53 = none) (kt s : List UInt32) (bs : List UInt8) (fb ub off len cap : Nat) (n : Nat) (g : Nat → Fam) (lim : Nat) (rd wr : List Nat) (hl : lim ≤ n) (hb : BSl g n fb ub off len cap bs) (h64 : len = 64) (hc1 : cap < 1000000000) (hs : s.length = 8) (hk : kt.length = 64)
    (hG : 1 < n) (hgl : rowOf (g 1).rows (1 * 1024) = some (wvs kt)) :
    ∃ n' g' rd', callR Tryd.prog (EE ax) 53 [.agg (wvs s).toArray, .slice (some (mkA fb ub off)) len cap] (St n g lim rd wr) = some (.agg (wvs (comp kt s bs)).toArray, St n' g' lim rd' wr) ∧ n ≤ n' ∧ n' ≤ n + 7 ∧ (∀ i, i < n → g' i = g i) ∧ (∀ x, x ∈ rd' → x ∈ rd ∨ ((x = fb ∨ x = 1) ∧ x < lim)) := by
  have hbl := hb.lt
  suffices hh : ∃ v s2, callR Tryd.prog (EE ax) 53 [.agg (wvs s).toArray, .slice (some (mkA fb ub off)) len cap] (St n g lim rd wr) = some (v, s2) ∧ v = .agg (wvs (comp kt s bs)).toArray ∧ ∃ n' g' rd', s2 = St n' g' lim rd' wr ∧ n ≤ n' ∧ n' ≤ n + 7 ∧ (∀ i, i < n → g' i = g i) ∧ (∀ x, x ∈ rd' → x ∈ rd ∨ ((x = fb ∨ x = 1) ∧ x < lim)) by
    obtain ⟨v, s2, h1, rfl, n', g', rd', rfl, h2⟩ := hh
    exact ⟨n', g', rd', h1, h2⟩
  refine callR_ex (fn := Tryd.f53) 116 hax (fn53 ax) rfl Tryd.ntmps53 (by simp) ?_
  simp (disch := omega) only [ofArgs_cons, ofArgs_nil, Nat.reduceAdd]
  repeat apply W.seq
  apply W.region
  · simp (disch := first | omega | (simp (disch := omega) [ev_tmp, ev_const, get_of, upd_same, upd_ne, Tryd.underlying3, Tryd.underlying83, Tryd.underlying5, Tryd.underlying29, Tryd.underlying22]; done) | (apply inK_i64; omega) | (apply inK_u64; omega)) only [op_len, cond_true, cond_false, pick_on, stepC_if, goC_true, goC_false, guard_tt, guard_tf, guard_ft, guard_ff, slot_zero, slot_succ, put_some, runC_cons, runC_nil, stepC_free, dstC_dst, dstC_none, thenC_some, cop_assign, cop_move, cop_conv, cop_bin, cop_un, cop_pick, cop_index, cop_indexAddr, cop_load, cop_store, cop_alloc, cop_box, cop_build, cop_slice, cop_s2a, cop_field, cop_fieldAddr, cop_extract, cop_nilCheck, cop_call, cop_builtin, cop_buildSlice, ev_tmp, ev_const, ev_global, ev_func, put_of, get_of, upd_same, upd_ne, List.toList_toArray, List.map_cons, List.map_nil, some_map, none_map, ti3, ti83, ti5, ti29, ti22, alloc_st (ti30 ax), box_st, cells_agg]
    with_reducible rfl
  simp only [onN, onB]
  have hb2 : BSl (fupd (fupd g n ⟨false, [(n * 1024 + 0, wvs s)], none⟩) (n + 1) ⟨false, [((n + 1) * 1024 + 0, List.replicate 8 (.int .u32 0))], none⟩) (n + 1 + 1) fb ub off len cap bs := by
    obtain ⟨cs, r1, r2⟩ := hb.row
    exact ⟨by omega, hb.tag, hb.fits, hb.size, cs, by rw [fupd_ne _ _ _ _ (by omega), fupd_ne _ _ _ _ (by omega)]; exact r1, r2⟩
  obtain ⟨n1, g1, rd1, e1, k1, k2, k3, k4⟩ := sched_run ax hp bs fb ub off len cap (n + 1 + 1) _ lim rd wr (by omega) hb2 h64 hc1
  have q1 : g1 n = ⟨false, [(n * 1024 + 0, wvs s)], none⟩ := by rw [k3 n (by omega), fupd_ne _ _ _ _ (by omega), fupd_same]
  have q2 : g1 (n + 1) = ⟨false, [((n + 1) * 1024 + 0, List.replicate 8 (vw 0))], none⟩ := by rw [k3 _ (by omega), fupd_same]; rfl
  have q0 : ∀ i, i < n → g1 i = g i := fun i hi => by rw [k3 _ (by omega), fupd_ne _ _ _ _ (by omega), fupd_ne _ _ _ _ (by omega)]
  clear k3 hb2
  have S1 := st_all (n := n1 + 1) (lim := lim) (rd := rd1) (wr := wr) (ti75 ax) (g := fupd g1 n1 ⟨false, [(n1 * 1024 + 0, List.replicate 64 (.int .u32 0))], none⟩) (f := n1) (u := n1 * 1024 + 0) (vs := wvs (sched bs 64)) (fupd_same _ _ _) (by rw [wvs_len, sched_len]) (by simp) (wvs_one _)
  rw [fupd_fupd, ins_ge (f := n1) _ (by omega)] at S1
  repeat apply W.seq
  apply W.region
  · simp (disch := first | omega | (simp (disch := omega) [ev_tmp, ev_const, get_of, upd_same, upd_ne, Tryd.underlying3, Tryd.underlying83, Tryd.underlying5, Tryd.underlying29, Tryd.underlying22]; done) | (apply inK_i64; omega) | (apply inK_u64; omega)) only [op_len, cond_true, cond_false, pick_on, stepC_if, goC_true, goC_false, guard_tt, guard_tf, guard_ft, guard_ff, slot_zero, slot_succ, put_some, runC_cons, runC_nil, stepC_free, dstC_dst, dstC_none, thenC_some, cop_assign, cop_move, cop_conv, cop_bin, cop_un, cop_pick, cop_index, cop_indexAddr, cop_load, cop_store, cop_alloc, cop_box, cop_build, cop_slice, cop_s2a, cop_field, cop_fieldAddr, cop_extract, cop_nilCheck, cop_call, cop_builtin, cop_buildSlice, ev_tmp, ev_const, ev_global, ev_func, put_of, get_of, upd_same, upd_ne, List.toList_toArray, List.map_cons, List.map_nil, some_map, none_map, ti3, ti83, ti5, ti29, ti22, e1, alloc_st (ti75 ax), cells_agg, S1]
    with_reducible rfl
  simp only [onN, onB]
  have bd1 := bounds_h (len := 8) (cap := 8) (natOf_lit .i64 4) (by omega)
  have bd2 := bounds_l (len := 8) (cap := 8) (natOf_lit .i64 4) (by omega) (by omega)
  generalize hG2 : fupd g1 n1 ⟨false, [(n1 * 1024 + 0, wvs (sched bs 64))], none⟩ = g2
  have p1 : g2 n = ⟨false, [(n * 1024 + 0, wvs s)], none⟩ := by rw [← hG2, fupd_ne _ _ _ _ (by omega)]; exact q1
  have p2 : g2 (n + 1) = ⟨false, [((n + 1) * 1024 + 0, List.replicate 8 (vw 0))], none⟩ := by rw [← hG2, fupd_ne _ _ _ _ (by omega)]; exact q2
  have p3 : g2 n1 = ⟨false, [(n1 * 1024 + 0, wvs (sched bs 64))], none⟩ := by rw [← hG2, fupd_same]
  have p0 : ∀ i, i < n → g2 i = g i := fun i hi => by rw [← hG2, fupd_ne _ _ _ _ (by omega)]; exact q0 i hi
  clear hG2 q0 q1 q2 S1
  have D1 := ld_partq (n := n1 + 1) (ti96 ax) rfl (g := g2) (f := n) (u := n * 1024 + 0) (off := 0 + 0 * 1) (cs := wvs s) (by rw [p1]; exact rowOf_one) (by rw [wvs_len]; omega) (by omega)
  have D2 := ld_partq (n := n1 + 1) (ti96 ax) rfl (g := g2) (f := n) (u := n * 1024 + 0) (off := 0 + 4 * 1) (cs := wvs s) (by rw [p1]; exact rowOf_one) (by rw [wvs_len]; omega) (by omega)
  rw [show ((wvs s).drop (0 + 0 * 1)).take 4 = wvs (s.take 4) by rw [wvs_drop, wvs_take]; rfl] at D1
  rw [show ((wvs s).drop (0 + 4 * 1)).take 4 = wvs (s.drop 4) by rw [wvs_drop, wvs_take, List.take_of_length_le (by simp; omega)]] at D2
  have E1 := st_allq (n := n1 + 1 + 1 + 1) (ti96 ax) (g := fupd (fupd g2 (n1 + 1) ⟨false, [((n1 + 1) * 1024 + 0, List.replicate 4 (.int .u32 0))], none⟩) (n1 + 1 + 1) ⟨false, [((n1 + 1 + 1) * 1024 + 0, List.replicate 4 (.int .u32 0))], none⟩) (f := n1 + 1) (u := (n1 + 1) * 1024 + 0) (vs := wvs (s.take 4)) (es := none) (cs := List.replicate 4 (.int .u32 0)) (by rw [fupd_ne _ _ _ _ (by omega), fupd_same]) (by rw [wvs_len]; simp; omega) (by simp) (wvs_one _) (by omega)
  rw [fupd_comm _ _ _ _ _ (show n1 + 1 + 1 ≠ n1 + 1 by omega), fupd_fupd] at E1
  have E2 := st_allq (n := n1 + 1 + 1 + 1) (ti96 ax) (g := fupd (fupd g2 (n1 + 1) ⟨false, [((n1 + 1) * 1024 + 0, wvs (s.take 4))], none⟩) (n1 + 1 + 1) ⟨false, [((n1 + 1 + 1) * 1024 + 0, List.replicate 4 (.int .u32 0))], none⟩) (f := n1 + 1 + 1) (u := (n1 + 1 + 1) * 1024 + 0) (vs := wvs (s.drop 4)) (es := none) (cs := List.replicate 4 (.int .u32 0)) (fupd_same _ _ _) (by rw [wvs_len]; simp; omega) (by simp) (wvs_one _) (by omega)
  rw [fupd_fupd] at E2
  have I0 := fun l => ins_ge (m := lim) (f := n) l (by omega)
  have I1 := fun l => ins_ge (m := lim) (f := n1 + 1) l (by omega)
  have I2 := fun l => ins_ge (m := lim) (f := n1 + 1 + 1) l (by omega)
  repeat apply W.seq
  apply W.draw_ex (ms := [0, 1, 3, 0, 8, 24, 0, 0, 199, 511])
  · kernel_rfl
  · simp (disch := first | omega | (simp (disch := omega) [ev_tmp, ev_const, get_of, upd_same, upd_ne, Tryd.underlying3, Tryd.underlying83, Tryd.underlying5, Tryd.underlying29, Tryd.underlying22]; done) | (apply inK_i64; omega) | (apply inK_u64; omega)) only [op_len, cond_true, cond_false, pick_on, stepC_if, goC_true, goC_false, guard_tt, guard_tf, guard_ft, guard_ff, slot_zero, slot_succ, put_some, runC_cons, runC_nil, stepC_free, dstC_dst, dstC_none, thenC_some, cop_assign, cop_move, cop_conv, cop_bin, cop_un, cop_pick, cop_index, cop_indexAddr, cop_load, cop_store, cop_alloc, cop_box, cop_build, cop_slice, cop_s2a, cop_field, cop_fieldAddr, cop_extract, cop_nilCheck, cop_call, cop_builtin, cop_buildSlice, ev_tmp, ev_const, ev_global, ev_func, put_of, get_of, upd_same, upd_ne, List.toList_toArray, List.map_cons, List.map_nil, some_map, none_map, ti3, ti83, ti5, ti29, ti22, drawC_cons, drawC_nil, inner_st, thenD_some, consLg_some, insAll_nil, insAll_cons, slice_arr1 (ti30 ax) (ti29 ax) (by omega) bd1 (show (n * 1024 + 0) % 1024 = 0 by omega), slice_arr1 (ti30 ax) (ti29 ax) (by omega) bd2 (show (n * 1024 + 0) % 1024 = 0 by omega), s2a_eq (ti96 ax) (show 0 < 4 by omega) (show 4 ≤ 4 - 0 by omega), s2a_eq (ti96 ax) (show 0 < 4 by omega) (show 4 ≤ 8 - 4 by omega), D1, D2, alloc_st (ti96 ax), cells_agg, E1, E2, I0, I1, I2]
    with_reducible rfl
  · simp (disch := first | decide | (apply clash_gen <;> intro f hf <;> simp at hf ⊢ <;> omega)) only [calmAll_cons, calmAll_nil, calmAll_y0, calmOne_nil, calmOne_set, calmOne_ok, List.nil_append, List.cons_append, List.length_cons, List.length_nil, Nat.reduceAdd, nth_zero, nth_succ, Bool.and_self, Bool.and_true, Bool.true_and]
  simp only [onN, onB]
  have hKT : ∀ rd, opLoad (EE ax) (St (n1 + 1 + 1 + 1) (fupd (fupd g2 (n1 + 1) ⟨false, [((n1 + 1) * 1024 + 0, wvs (s.take 4))], none⟩) (n1 + 1 + 1) ⟨false, [((n1 + 1 + 1) * 1024 + 0, wvs (s.drop 4))], none⟩) lim rd wr) 75 (.pointer (some (mkA 1 (1 * 1024) 0))) = some (.agg (wvs kt).toArray, St (n1 + 1 + 1 + 1) (fupd (fupd g2 (n1 + 1) ⟨false, [((n1 + 1) * 1024 + 0, wvs (s.take 4))], none⟩) (n1 + 1 + 1) ⟨false, [((n1 + 1 + 1) * 1024 + 0, wvs (s.drop 4))], none⟩) lim (ins lim rd 1) wr) :=
    fun rd => ld_all (ti75 ax) rfl (by rw [fupd_ne _ _ _ _ (by omega), fupd_ne _ _ _ _ (by omega), p0 _ hG]; exact hgl) (by rw [wvs_len, hk])
  repeat apply W.seq
  apply W.region
  · simp (disch := first | omega | (simp (disch := omega) [ev_tmp, ev_const, get_of, upd_same, upd_ne, Tryd.underlying3, Tryd.underlying83, Tryd.underlying5, Tryd.underlying29, Tryd.underlying22]; done) | (apply inK_i64; omega) | (apply inK_u64; omega)) only [op_len, cond_true, cond_false, pick_on, stepC_if, goC_true, goC_false, guard_tt, guard_tf, guard_ft, guard_ff, slot_zero, slot_succ, put_some, runC_cons, runC_nil, stepC_free, dstC_dst, dstC_none, thenC_some, cop_assign, cop_move, cop_conv, cop_bin, cop_un, cop_pick, cop_index, cop_indexAddr, cop_load, cop_store, cop_alloc, cop_box, cop_build, cop_slice, cop_s2a, cop_field, cop_fieldAddr, cop_extract, cop_nilCheck, cop_call, cop_builtin, cop_buildSlice, ev_tmp, ev_const, ev_global, ev_func, put_of, get_of, upd_same, upd_ne, List.toList_toArray, List.map_cons, List.map_nil, some_map, none_map, ti3, ti83, ti5, ti29, ti22, hKT]
    with_reducible rfl
  simp only [onN, onB]
  repeat apply W.seq
  apply W.block
  refine W.loop (fun m fr s' => ∃ (t : Nat) (h : Nat → Value) (g' : Nat → Fam) (rd' : List Nat), t ≤ 64 ∧ m = 64 - t ∧ fr = Fr.of 116 h ∧ s' = St (n1 + 1 + 1 + 1) g' lim rd' wr ∧ h 2 = .pointer (some (mkA n (n * 1024 + 0) 0)) ∧ h 4 = .pointer (some (mkA (n + 1) ((n + 1) * 1024 + 0) 0)) ∧ h 6 = .pointer (some (mkA (n1 + 1) ((n1 + 1) * 1024 + 0) 0)) ∧ h 7 = .pointer (some (mkA (n1 + 1 + 1) ((n1 + 1 + 1) * 1024 + 0) 0)) ∧ h 5 = .pointer (some (mkA n1 (n1 * 1024 + 0) 0)) ∧ h 21 = .agg (wvs kt).toArray ∧ h 22 = .int .i64 (t : Int) ∧ g' n = ⟨false, [(n * 1024 + 0, wvs s)], none⟩ ∧ g' (n + 1) = ⟨false, [((n + 1) * 1024 + 0, List.replicate 8 (vw 0))], none⟩ ∧ g' n1 = ⟨false, [(n1 * 1024 + 0, wvs (sched bs 64))], none⟩ ∧ g' (n1 + 1) = ⟨false, [((n1 + 1) * 1024 + 0, wvs (rds s (sched bs 64) kt t).1)], none⟩ ∧ g' (n1 + 1 + 1) = ⟨false, [((n1 + 1 + 1) * 1024 + 0, wvs (rds s (sched bs 64) kt t).2)], none⟩ ∧ (∀ i, i < n → g' i = g i) ∧ (∀ x, x ∈ rd' → x ∈ rd ∨ ((x = fb ∨ x = 1) ∧ x < lim))) ?_ (64 - 0) _ _ ⟨0, _, _, _, by omega, rfl, rfl, rfl, ?_, ?_, ?_, ?_, ?_, ?_, ?_, ?_, ?_, ?_, ?_, ?_, ?_, ?_⟩
  case refine_2 => simp (disch := omega) only [upd_same, upd_ne]
  case refine_3 => simp (disch := omega) only [upd_same, upd_ne]
  case refine_4 => simp (disch := omega) only [upd_same, upd_ne]
  case refine_5 => simp (disch := omega) only [upd_same, upd_ne]
  case refine_6 => simp (disch := omega) only [upd_same, upd_ne]
  case refine_7 => simp (disch := omega) only [upd_same, upd_ne]
  case refine_8 => simp (disch := omega) only [upd_same, upd_ne]; rfl
  case refine_9 => rw [fupd_ne _ _ _ _ (by omega), fupd_ne _ _ _ _ (by omega)]; exact p1
  case refine_10 => rw [fupd_ne _ _ _ _ (by omega), fupd_ne _ _ _ _ (by omega)]; exact p2
  case refine_11 => rw [fupd_ne _ _ _ _ (by omega), fupd_ne _ _ _ _ (by omega)]; exact p3
  case refine_12 => rw [fupd_ne _ _ _ _ (by omega), fupd_same]; rfl
  case refine_13 => rw [fupd_same]; rfl
  case refine_14 => intro i hi; rw [fupd_ne _ _ _ _ (by omega), fupd_ne _ _ _ _ (by omega)]; exact p0 i hi
  case refine_15 =>
    intro x hx
    rcases mem_ins hx with hx | ⟨hx, hq⟩
    · exact (k4 x hx).imp id fun k => ⟨.inl k.1, k.2⟩
    · exact .inr ⟨.inr hx, hq⟩
  clear p1 p2 p3 p0 hKT E1 E2 D1 D2
  rintro m fr s' ⟨t, h, g', rd', ht, rfl, rfl, rfl, h2, h4, h6, h7, h5, h21, h22, p1, p2, p3, p4, p5, p0, hrd⟩
  repeat apply W.seq
  apply W.region
  · simp (disch := first | omega | (simp (disch := omega) [ev_tmp, ev_const, get_of, upd_same, upd_ne, h22, Tryd.underlying3, Tryd.underlying83, Tryd.underlying5, Tryd.underlying29, Tryd.underlying22]; done) | (apply inK_i64; omega) | (apply inK_u64; omega)) only [op_len, cond_true, cond_false, pick_on, stepC_if, goC_true, goC_false, guard_tt, guard_tf, guard_ft, guard_ff, slot_zero, slot_succ, put_some, runC_cons, runC_nil, stepC_free, dstC_dst, dstC_none, thenC_some, cop_assign, cop_move, cop_conv, cop_bin, cop_un, cop_pick, cop_index, cop_indexAddr, cop_load, cop_store, cop_alloc, cop_box, cop_build, cop_slice, cop_s2a, cop_field, cop_fieldAddr, cop_extract, cop_nilCheck, cop_call, cop_builtin, cop_buildSlice, ev_tmp, ev_const, ev_global, ev_func, put_of, get_of, upd_same, upd_ne, List.toList_toArray, List.map_cons, List.map_nil, some_map, none_map, ti3, ti83, ti5, ti29, ti22, oi_lss, h22]
    with_reducible rfl
  simp only [onN, onB]
  by_cases hlt : (t : Int) < 64
  case neg =>
    repeat apply W.seq
    refine W.cond (b := false) ?_ ?_
    · simp (disch := omega) only [ev_tmp, get_of, upd_same, upd_ne, hlt, decide_true, decide_false]
    simp only [cond_true, cond_false]
    apply W.exit
    simp only [onN, onB, Nat.beq_refl, cond_true, cond_false, bexit]
    have hte : t = 64 := by omega
    subst hte
    obtain ⟨l1, l2⟩ := rds_len s (sched bs 64) kt hs 64
    have hcomp : comp kt s bs = fin s (rds s (sched bs 64) kt 64).1 (rds s (sched bs 64) kt 64).2 4 := rfl
    generalize (rds s (sched bs 64) kt 64).1 = V at *
    generalize (rds s (sched bs 64) kt 64).2 = E at *
    repeat apply W.seq
    apply W.region
    · simp (disch := first | omega | (simp (disch := omega) [ev_tmp, ev_const, get_of, upd_same, upd_ne, Tryd.underlying3, Tryd.underlying83, Tryd.underlying5, Tryd.underlying29, Tryd.underlying22]; done) | (apply inK_i64; omega) | (apply inK_u64; omega)) only [op_len, cond_true, cond_false, pick_on, stepC_if, goC_true, goC_false, guard_tt, guard_tf, guard_ft, guard_ff, slot_zero, slot_succ, put_some, runC_cons, runC_nil, stepC_free, dstC_dst, dstC_none, thenC_some, cop_assign, cop_move, cop_conv, cop_bin, cop_un, cop_pick, cop_index, cop_indexAddr, cop_load, cop_store, cop_alloc, cop_box, cop_build, cop_slice, cop_s2a, cop_field, cop_fieldAddr, cop_extract, cop_nilCheck, cop_call, cop_builtin, cop_buildSlice, ev_tmp, ev_const, ev_global, ev_func, put_of, get_of, upd_same, upd_ne, List.toList_toArray, List.map_cons, List.map_nil, some_map, none_map, ti3, ti83, ti5, ti29, ti22]
      with_reducible rfl
    simp only [onN, onB]
    repeat apply W.seq
    apply W.block
    refine W.loop (fun m fr s' => ∃ (t : Nat) (h : Nat → Value) (g' : Nat → Fam) (rd' : List Nat), t ≤ 4 ∧ m = 4 - t ∧ fr = Fr.of 116 h ∧ s' = St (n1 + 1 + 1 + 1) g' lim rd' wr ∧ h 2 = .pointer (some (mkA n (n * 1024 + 0) 0)) ∧ h 4 = .pointer (some (mkA (n + 1) ((n + 1) * 1024 + 0) 0)) ∧ h 6 = .pointer (some (mkA (n1 + 1) ((n1 + 1) * 1024 + 0) 0)) ∧ h 7 = .pointer (some (mkA (n1 + 1 + 1) ((n1 + 1 + 1) * 1024 + 0) 0)) ∧ h 94 = .int .i64 (t : Int) ∧ g' n = ⟨false, [(n * 1024 + 0, wvs (fin s V E t))], none⟩ ∧ g' (n + 1) = ⟨false, [((n + 1) * 1024 + 0, List.replicate 8 (vw 0))], none⟩ ∧ g' (n1 + 1) = ⟨false, [((n1 + 1) * 1024 + 0, wvs V)], none⟩ ∧ g' (n1 + 1 + 1) = ⟨false, [((n1 + 1 + 1) * 1024 + 0, wvs E)], none⟩ ∧ (∀ i, i < n → g' i = g i) ∧ (∀ x, x ∈ rd' → x ∈ rd ∨ ((x = fb ∨ x = 1) ∧ x < lim))) ?_ (4 - 0) _ _ ⟨0, _, _, _, by omega, rfl, rfl, rfl, ?_, ?_, ?_, ?_, ?_, p1, p2, p4, p5, p0, hrd⟩
    case refine_2 => simp (disch := omega) only [upd_same, upd_ne, h2]
    case refine_3 => simp (disch := omega) only [upd_same, upd_ne, h4]
    case refine_4 => simp (disch := omega) only [upd_same, upd_ne, h6]
    case refine_5 => simp (disch := omega) only [upd_same, upd_ne, h7]
    case refine_6 => simp (disch := omega) only [upd_same, upd_ne]; rfl
    clear h2 h4 h6 h7 h5 h21 h22 p1 p2 p3 p4 p5 p0 hrd
    rintro m fr s' ⟨t, h, g', rd', ht, rfl, rfl, rfl, h2, h4, h6, h7, h94, p1, p2, p4, p5, p0, hrd⟩
    have hfl := fin_len s V E t
    repeat apply W.seq
    apply W.region
    · simp (disch := first | omega | (simp (disch := omega) [ev_tmp, ev_const, get_of, upd_same, upd_ne, h94, Tryd.underlying3, Tryd.underlying83, Tryd.underlying5, Tryd.underlying29, Tryd.underlying22]; done) | (apply inK_i64; omega) | (apply inK_u64; omega)) only [op_len, cond_true, cond_false, pick_on, stepC_if, goC_true, goC_false, guard_tt, guard_tf, guard_ft, guard_ff, slot_zero, slot_succ, put_some, runC_cons, runC_nil, stepC_free, dstC_dst, dstC_none, thenC_some, cop_assign, cop_move, cop_conv, cop_bin, cop_un, cop_pick, cop_index, cop_indexAddr, cop_load, cop_store, cop_alloc, cop_box, cop_build, cop_slice, cop_s2a, cop_field, cop_fieldAddr, cop_extract, cop_nilCheck, cop_call, cop_builtin, cop_buildSlice, ev_tmp, ev_const, ev_global, ev_func, put_of, get_of, upd_same, upd_ne, List.toList_toArray, List.map_cons, List.map_nil, some_map, none_map, ti3, ti83, ti5, ti29, ti22, oi_lss, h94]
      with_reducible rfl
    simp only [onN, onB]
    by_cases hl4 : (t : Int) < 4
    case neg =>
      repeat apply W.seq
      refine W.cond (b := false) ?_ ?_
      · simp (disch := omega) only [ev_tmp, get_of, upd_same, upd_ne, hl4, decide_true, decide_false]
      simp only [cond_true, cond_false]
      apply W.exit
      simp only [onN, onB, Nat.beq_refl, cond_true, cond_false, bexit]
      have hte : t = 4 := by omega
      subst hte
      have L1 := ld_all (n := n1 + 1 + 1 + 1) (lim := lim) (rd := rd') (wr := wr) (ti30 ax) rfl (g := g') (f := n) (u := n * 1024 + 0) (cs := wvs (fin s V E 4)) (by rw [p1]; exact rowOf_one) (by rw [wvs_len, hfl, hs])
      rw [I0] at L1
      have S1 := st_all (n := n1 + 1 + 1 + 1) (lim := lim) (rd := rd') (wr := wr) (ti30 ax) (f := n + 1) (u := (n + 1) * 1024 + 0) (vs := wvs (fin s V E 4)) p2 (by rw [wvs_len, hfl, hs]) (by simp) (wvs_one _)
      rw [ins_ge (f := n + 1) _ (by omega)] at S1
      repeat apply W.seq
      apply W.region
      · simp (disch := first | omega | (simp (disch := omega) [ev_tmp, ev_const, get_of, upd_same, upd_ne, h2, h4, Tryd.underlying3, Tryd.underlying83, Tryd.underlying5, Tryd.underlying29, Tryd.underlying22]; done) | (apply inK_i64; omega) | (apply inK_u64; omega)) only [op_len, cond_true, cond_false, pick_on, stepC_if, goC_true, goC_false, guard_tt, guard_tf, guard_ft, guard_ff, slot_zero, slot_succ, put_some, runC_cons, runC_nil, stepC_free, dstC_dst, dstC_none, thenC_some, cop_assign, cop_move, cop_conv, cop_bin, cop_un, cop_pick, cop_index, cop_indexAddr, cop_load, cop_store, cop_alloc, cop_box, cop_build, cop_slice, cop_s2a, cop_field, cop_fieldAddr, cop_extract, cop_nilCheck, cop_call, cop_builtin, cop_buildSlice, ev_tmp, ev_const, ev_global, ev_func, put_of, get_of, upd_same, upd_ne, List.toList_toArray, List.map_cons, List.map_nil, some_map, none_map, ti3, ti83, ti5, ti29, ti22, h2, h4, L1, cells_agg, S1]
        with_reducible rfl
      simp only [onN, onB]
      apply W.ret
      refine ⟨.inr rfl, [.agg (wvs (comp kt s bs)).toArray], St (n1 + 1 + 1 + 1) (fupd g' (n + 1) ⟨false, [((n + 1) * 1024 + 0, wvs (comp kt s bs))], none⟩) lim rd' wr, ?_, rfl, n1 + 1 + 1 + 1, _, rd', rfl, by omega, by omega, fun i hi => by rw [fupd_ne _ _ _ _ (by omega)]; exact p0 i hi, hrd⟩
      have L2 := ld_all (n := n1 + 1 + 1 + 1) (lim := lim) (rd := rd') (wr := wr) (ti30 ax) rfl (g := fupd g' (n + 1) ⟨false, [((n + 1) * 1024 + 0, wvs (fin s V E 4))], none⟩) (f := n + 1) (u := (n + 1) * 1024 + 0) (cs := wvs (fin s V E 4)) (by rw [fupd_same]; exact rowOf_one) (by rw [wvs_len, hfl, hs])
      rw [ins_ge (f := n + 1) _ (by omega)] at L2
      rw [hcomp]
      simp (disch := first | omega | (simp (disch := omega) only [get_of, upd_same, upd_ne, h4]; done)) only [resC_cell (ad := mkA (n + 1) ((n + 1) * 1024 + 0) 0), resC_nil, Tryd.results53, L2, resThen_some, resAdd_some]
    have ht4 : t < 4 := by omega
    repeat apply W.seq
    refine W.cond (b := true) ?_ ?_
    · simp (disch := omega) only [ev_tmp, get_of, upd_same, upd_ne, hl4, decide_true, decide_false]
    simp only [cond_true, cond_false]
    apply W.skip
    simp only [onN, onB]
    have hql : ((fin s V E t).set t ((fin s V E t).getD t 0 + V.getD t 0)).length = 8 := by rw [List.length_set, hfl, hs]
    have A1 := ld_q (n := n1 + 1 + 1 + 1) (ti29 ax) rfl (g := g') (f := n) (u := n * 1024 + 0) (off := 0 + t) (cs := wvs (fin s V E t)) (by rw [p1]; exact rowOf_one) (by rw [Nat.zero_add]; exact wvs_get (by omega)) (by omega)
    have A2 := ld_q (n := n1 + 1 + 1 + 1) (ti29 ax) rfl (g := g') (f := n1 + 1) (u := (n1 + 1) * 1024 + 0) (off := 0 + t) (cs := wvs V) (by rw [p4]; exact rowOf_one) (by rw [Nat.zero_add]; exact wvs_get (by omega)) (by omega)
    have A3 := fun v hv => st_q (n := n1 + 1 + 1 + 1) (ti29 ax) (g := g') (f := n) (u := n * 1024 + 0) (off := 0 + t) (v := v) p1 (by rw [wvs_len]; omega) hv (by omega)
    repeat apply W.seq
    apply W.block
    repeat apply W.seq
    apply W.region
    · simp (disch := first | omega | (simp (disch := omega) [ev_tmp, ev_const, get_of, upd_same, upd_ne, h94, Tryd.underlying3, Tryd.underlying83, Tryd.underlying5, Tryd.underlying29, Tryd.underlying22]; done) | (apply inK_i64; omega) | (apply inK_u64; omega)) only [op_len, cond_true, cond_false, pick_on, stepC_if, goC_true, goC_false, guard_tt, guard_tf, guard_ft, guard_ff, slot_zero, slot_succ, put_some, runC_cons, runC_nil, stepC_free, dstC_dst, dstC_none, thenC_some, cop_assign, cop_move, cop_conv, cop_bin, cop_un, cop_pick, cop_index, cop_indexAddr, cop_load, cop_store, cop_alloc, cop_box, cop_build, cop_slice, cop_s2a, cop_field, cop_fieldAddr, cop_extract, cop_nilCheck, cop_call, cop_builtin, cop_buildSlice, ev_tmp, ev_const, ev_global, ev_func, put_of, get_of, upd_same, upd_ne, List.toList_toArray, List.map_cons, List.map_nil, some_map, none_map, ti3, ti83, ti5, ti29, ti22, h94]
      with_reducible rfl
    simp only [onN, onB]
    repeat apply W.seq
    apply W.last
    · kernel_rfl
    · simp (disch := first | omega | (simp (disch := omega) [ev_tmp, ev_const, get_of, upd_same, upd_ne, h2, h6, Tryd.underlying3, Tryd.underlying83, Tryd.underlying5, Tryd.underlying29, Tryd.underlying22]; done) | (apply inK_i64; omega) | (apply inK_u64; omega)) only [op_len, cond_true, cond_false, pick_on, stepC_if, goC_true, goC_false, guard_tt, guard_tf, guard_ft, guard_ff, slot_zero, slot_succ, put_some, runC_cons, runC_nil, stepC_free, dstC_dst, dstC_none, thenC_some, cop_assign, cop_move, cop_conv, cop_bin, cop_un, cop_pick, cop_index, cop_indexAddr, cop_load, cop_store, cop_alloc, cop_box, cop_build, cop_slice, cop_s2a, cop_field, cop_fieldAddr, cop_extract, cop_nilCheck, cop_call, cop_builtin, cop_buildSlice, ev_tmp, ev_const, ev_global, ev_func, put_of, get_of, upd_same, upd_ne, List.toList_toArray, List.map_cons, List.map_nil, some_map, none_map, ti3, ti83, ti5, ti29, ti22, quietL_cons, quietL_one, inner_st, thenL_same, thenL_rd, lastL_some, insAll_nil, insAll_cons, h2, h6, natOf_nat, idx_arr (ti30 ax) (ti29 ax) (show t < 8 by omega), idx_arr (ti96 ax) (ti29 ax) ht4, A1, A2, A3 _ (vw_one _), bw_add, cells_vw, I0, I1]
      with_reducible rfl
    simp only [onN, onB]
    have hN : fupd g' n ⟨false, [(n * 1024 + 0, (wvs (fin s V E t)).set (0 + t) (vw ((fin s V E t).getD t 0 + V.getD t 0)))], none⟩ = fupd g' n ⟨false, [(n * 1024 + 0, wvs ((fin s V E t).set t ((fin s V E t).getD t 0 + V.getD t 0)))], none⟩ := by rw [Nat.zero_add, wvs_set]
    rw [hN]
    have c4 : (t : Int) + 4 = ((t + 4 : Nat) : Int) := by omega
    have B1 := ld_q (n := n1 + 1 + 1 + 1) (ti29 ax) rfl (g := fupd g' n ⟨false, [(n * 1024 + 0, wvs ((fin s V E t).set t ((fin s V E t).getD t 0 + V.getD t 0)))], none⟩) (f := n) (u := n * 1024 + 0) (off := 0 + (t + 4)) (cs := wvs ((fin s V E t).set t ((fin s V E t).getD t 0 + V.getD t 0))) (by rw [fupd_same]; exact rowOf_one) (by rw [Nat.zero_add]; exact wvs_get (by omega)) (by omega)
    have B2 := ld_q (n := n1 + 1 + 1 + 1) (ti29 ax) rfl (g := fupd g' n ⟨false, [(n * 1024 + 0, wvs ((fin s V E t).set t ((fin s V E t).getD t 0 + V.getD t 0)))], none⟩) (f := n1 + 1 + 1) (u := (n1 + 1 + 1) * 1024 + 0) (off := 0 + t) (cs := wvs E) (by rw [fupd_ne _ _ _ _ (by omega), p5]; exact rowOf_one) (by rw [Nat.zero_add]; exact wvs_get (by omega)) (by omega)
    have B3 := fun v hv => st_q (n := n1 + 1 + 1 + 1) (ti29 ax) (g := fupd g' n ⟨false, [(n * 1024 + 0, wvs ((fin s V E t).set t ((fin s V E t).getD t 0 + V.getD t 0)))], none⟩) (f := n) (u := n * 1024 + 0) (off := 0 + (t + 4)) (v := v) (fupd_same _ _ _) (by rw [wvs_len]; omega) hv (by omega)
    simp only [fupd_fupd] at B3
    repeat apply W.seq
    apply W.last
    · kernel_rfl
    · simp (disch := first | omega | (simp (disch := omega) [ev_tmp, ev_const, get_of, upd_same, upd_ne, h2, h7, Tryd.underlying3, Tryd.underlying83, Tryd.underlying5, Tryd.underlying29, Tryd.underlying22]; done) | (apply inK_i64; omega) | (apply inK_u64; omega)) only [op_len, cond_true, cond_false, pick_on, stepC_if, goC_true, goC_false, guard_tt, guard_tf, guard_ft, guard_ff, slot_zero, slot_succ, put_some, runC_cons, runC_nil, stepC_free, dstC_dst, dstC_none, thenC_some, cop_assign, cop_move, cop_conv, cop_bin, cop_un, cop_pick, cop_index, cop_indexAddr, cop_load, cop_store, cop_alloc, cop_box, cop_build, cop_slice, cop_s2a, cop_field, cop_fieldAddr, cop_extract, cop_nilCheck, cop_call, cop_builtin, cop_buildSlice, ev_tmp, ev_const, ev_global, ev_func, put_of, get_of, upd_same, upd_ne, List.toList_toArray, List.map_cons, List.map_nil, some_map, none_map, ti3, ti83, ti5, ti29, ti22, quietL_cons, quietL_one, inner_st, thenL_same, thenL_rd, lastL_some, insAll_nil, insAll_cons, h2, h7, oi_add, c4, natOf_nat, idx_arr (ti30 ax) (ti29 ax) (show t + 4 < 8 by omega), idx_arr (ti96 ax) (ti29 ax) ht4, B1, B2, B3 _ (vw_one _), bw_add, cells_vw, I0, I2]
      with_reducible rfl
    simp only [onN, onB]
    repeat apply W.seq
    apply W.region
    · simp (disch := first | omega | (simp (disch := omega) [ev_tmp, ev_const, get_of, upd_same, upd_ne, h94, Tryd.underlying3, Tryd.underlying83, Tryd.underlying5, Tryd.underlying29, Tryd.underlying22]; done) | (apply inK_i64; omega) | (apply inK_u64; omega)) only [op_len, cond_true, cond_false, pick_on, stepC_if, goC_true, goC_false, guard_tt, guard_tf, guard_ft, guard_ff, slot_zero, slot_succ, put_some, runC_cons, runC_nil, stepC_free, dstC_dst, dstC_none, thenC_some, cop_assign, cop_move, cop_conv, cop_bin, cop_un, cop_pick, cop_index, cop_indexAddr, cop_load, cop_store, cop_alloc, cop_box, cop_build, cop_slice, cop_s2a, cop_field, cop_fieldAddr, cop_extract, cop_nilCheck, cop_call, cop_builtin, cop_buildSlice, ev_tmp, ev_const, ev_global, ev_func, put_of, get_of, upd_same, upd_ne, List.toList_toArray, List.map_cons, List.map_nil, some_map, none_map, ti3, ti83, ti5, ti29, ti22, oi_add, h94]
      with_reducible rfl
    simp only [onN, onB]
    refine ⟨4 - (t + 1), by omega, t + 1, _, _, rd', by omega, rfl, rfl, rfl, ?_, ?_, ?_, ?_, ?_, ?_, ?_, ?_, ?_, ?_, hrd⟩
    · simp (disch := omega) only [upd_same, upd_ne, h2]
    · simp (disch := omega) only [upd_same, upd_ne, h4]
    · simp (disch := omega) only [upd_same, upd_ne, h6]
    · simp (disch := omega) only [upd_same, upd_ne, h7]
    · simp (disch := omega) only [upd_same, upd_ne]; rfl
    · rw [fupd_same, Nat.zero_add, wvs_set]; rfl
    · rw [fupd_ne _ _ _ _ (by omega)]; exact p2
    · rw [fupd_ne _ _ _ _ (by omega)]; exact p4
    · rw [fupd_ne _ _ _ _ (by omega)]; exact p5
    · intro i hi; rw [fupd_ne _ _ _ _ (by omega)]; exact p0 i hi
  have htl : t < 64 := by omega
  obtain ⟨l1, l2⟩ := rds_len s (sched bs 64) kt hs t
  have hstep : rds s (sched bs 64) kt (t + 1) = ([rx (rds s (sched bs 64) kt t).2 (kt.getD t 0) ((sched bs 64).getD t 0) + ry (rds s (sched bs 64) kt t).1, (rds s (sched bs 64) kt t).1.getD 0 0, (rds s (sched bs 64) kt t).1.getD 1 0, (rds s (sched bs 64) kt t).1.getD 2 0], [(rds s (sched bs 64) kt t).1.getD 3 0 + rx (rds s (sched bs 64) kt t).2 (kt.getD t 0) ((sched bs 64).getD t 0), (rds s (sched bs 64) kt t).2.getD 0 0, (rds s (sched bs 64) kt t).2.getD 1 0, (rds s (sched bs 64) kt t).2.getD 2 0]) := rfl
  generalize hV : (rds s (sched bs 64) kt t).1 = V at *
  generalize hE : (rds s (sched bs 64) kt t).2 = E at *
  repeat apply W.seq
  refine W.cond (b := true) ?_ ?_
  · simp (disch := omega) only [ev_tmp, get_of, upd_same, upd_ne, hlt, decide_true, decide_false]
  simp only [cond_true, cond_false]
  apply W.skip
  simp only [onN, onB]
  have hkt : (wvs kt).toArray.toList[t]? = some (vw (kt.getD t 0)) := by rw [List.toList_toArray]; exact wvs_get (by omega)
  repeat apply W.seq
  apply W.block
  repeat apply W.seq
  apply W.region
  · simp (disch := first | omega | (simp (disch := omega) [ev_tmp, ev_const, get_of, upd_same, upd_ne, h21, h22, Tryd.underlying3, Tryd.underlying83, Tryd.underlying5, Tryd.underlying29, Tryd.underlying22]; done) | (apply inK_i64; omega) | (apply inK_u64; omega)) only [op_len, cond_true, cond_false, pick_on, stepC_if, goC_true, goC_false, guard_tt, guard_tf, guard_ft, guard_ff, slot_zero, slot_succ, put_some, runC_cons, runC_nil, stepC_free, dstC_dst, dstC_none, thenC_some, cop_assign, cop_move, cop_conv, cop_bin, cop_un, cop_pick, cop_index, cop_indexAddr, cop_load, cop_store, cop_alloc, cop_box, cop_build, cop_slice, cop_s2a, cop_field, cop_fieldAddr, cop_extract, cop_nilCheck, cop_call, cop_builtin, cop_buildSlice, ev_tmp, ev_const, ev_global, ev_func, put_of, get_of, upd_same, upd_ne, List.toList_toArray, List.map_cons, List.map_nil, some_map, none_map, ti3, ti83, ti5, ti29, ti22, h21, h22, natOf_nat, idx_agg (ti75 ax) (ti29 ax) rfl htl hkt]
    with_reducible rfl
  simp only [onN, onB]
  have QV := fun (k : Nat) (hk : k < 4) => ld_q (n := n1 + 1 + 1 + 1) (ti29 ax) rfl (g := g') (f := n1 + 1) (u := (n1 + 1) * 1024 + 0) (off := 0 + k) (cs := wvs V) (by rw [p4]; exact rowOf_one) (by rw [Nat.zero_add]; exact wvs_get (by omega)) (by omega)
  have QE := fun (k : Nat) (hk : k < 4) => ld_q (n := n1 + 1 + 1 + 1) (ti29 ax) rfl (g := g') (f := n1 + 1 + 1) (u := (n1 + 1 + 1) * 1024 + 0) (off := 0 + k) (cs := wvs E) (by rw [p5]; exact rowOf_one) (by rw [Nat.zero_add]; exact wvs_get (by omega)) (by omega)
  have QW := ld_q (n := n1 + 1 + 1 + 1) (ti29 ax) rfl (g := g') (f := n1) (u := n1 * 1024 + 0) (off := 0 + t) (cs := wvs (sched bs 64)) (by rw [p3]; exact rowOf_one) (by rw [Nat.zero_add]; exact wvs_get (by rw [sched_len]; omega)) (by omega)
  have LV := fun (rd : List Nat) (k : Nat) (hk : k < 4) => ld_one (n := n1 + 1 + 1 + 1) (lim := lim) (rd := rd) (wr := wr) (ti29 ax) rfl (g := g') (f := n1 + 1) (u := (n1 + 1) * 1024 + 0) (off := 0 + k) (cs := wvs V) (by rw [p4]; exact rowOf_one) (by rw [Nat.zero_add]; exact wvs_get (by omega))
  have LE := fun (rd : List Nat) (k : Nat) (hk : k < 4) => ld_one (n := n1 + 1 + 1 + 1) (lim := lim) (rd := rd) (wr := wr) (ti29 ax) rfl (g := g') (f := n1 + 1 + 1) (u := (n1 + 1 + 1) * 1024 + 0) (off := 0 + k) (cs := wvs E) (by rw [p5]; exact rowOf_one) (by rw [Nat.zero_add]; exact wvs_get (by omega))
  have IW := fun l => ins_ge (m := lim) (f := n1) l (by omega)
  simp only [I1, I2] at LV LE
  have MIX : ∀ x s, callR Tryd.prog (EE ax) 78 [vw x, .int .i64 6, .int .i64 11, .int .i64 25] s = some (vw (mix32 x 6 11 25), s) := fun x s => mix_run ax hp x 6 11 25 (by omega) (by omega) (by omega) (by omega) (by omega) (by omega) s
  have MIY : ∀ x s, callR Tryd.prog (EE ax) 78 [vw x, .int .i64 2, .int .i64 13, .int .i64 22] s = some (vw (mix32 x 2 13 22), s) := fun x s => mix_run ax hp x 2 13 22 (by omega) (by omega) (by omega) (by omega) (by omega) (by omega) s
  repeat apply W.seq
  apply W.quiet
  · simp (disch := first | omega | (simp (disch := omega) [ev_tmp, ev_const, get_of, upd_same, upd_ne, h5, h7, Tryd.underlying3, Tryd.underlying83, Tryd.underlying5, Tryd.underlying29, Tryd.underlying22]; done) | (apply inK_i64; omega) | (apply inK_u64; omega)) only [op_len, cond_true, cond_false, pick_on, stepC_if, goC_true, goC_false, guard_tt, guard_tf, guard_ft, guard_ff, slot_zero, slot_succ, put_some, runC_cons, runC_nil, stepC_free, dstC_dst, dstC_none, thenC_some, cop_assign, cop_move, cop_conv, cop_bin, cop_un, cop_pick, cop_index, cop_indexAddr, cop_load, cop_store, cop_alloc, cop_box, cop_build, cop_slice, cop_s2a, cop_field, cop_fieldAddr, cop_extract, cop_nilCheck, cop_call, cop_builtin, cop_buildSlice, ev_tmp, ev_const, ev_global, ev_func, put_of, get_of, upd_same, upd_ne, List.toList_toArray, List.map_cons, List.map_nil, some_map, none_map, ti3, ti83, ti5, ti29, ti22, quietC_cons, quietC_nil, inner_st, thenQ_same, thenQ_rd, h5, h7, natOf_nat, natOf_lit, idx_arr (ti75 ax) (ti29 ax) htl, idx_arr (ti96 ax) (ti29 ax) (show 0 < 4 by omega), idx_arr (ti96 ax) (ti29 ax) (show 1 < 4 by omega), idx_arr (ti96 ax) (ti29 ax) (show 2 < 4 by omega), idx_arr (ti96 ax) (ti29 ax) (show 3 < 4 by omega), QE 0 (by omega), QE 1 (by omega), QE 2 (by omega), QE 3 (by omega), QW, MIX, bw_add, bw_and, bw_xor, bw_not, I2, IW]
    with_reducible rfl
  simp only [onN, onB]
  repeat apply W.seq
  apply W.quiet
  · simp (disch := first | omega | (simp (disch := omega) [ev_tmp, ev_const, get_of, upd_same, upd_ne, h6, Tryd.underlying3, Tryd.underlying83, Tryd.underlying5, Tryd.underlying29, Tryd.underlying22]; done) | (apply inK_i64; omega) | (apply inK_u64; omega)) only [op_len, cond_true, cond_false, pick_on, stepC_if, goC_true, goC_false, guard_tt, guard_tf, guard_ft, guard_ff, slot_zero, slot_succ, put_some, runC_cons, runC_nil, stepC_free, dstC_dst, dstC_none, thenC_some, cop_assign, cop_move, cop_conv, cop_bin, cop_un, cop_pick, cop_index, cop_indexAddr, cop_load, cop_store, cop_alloc, cop_box, cop_build, cop_slice, cop_s2a, cop_field, cop_fieldAddr, cop_extract, cop_nilCheck, cop_call, cop_builtin, cop_buildSlice, ev_tmp, ev_const, ev_global, ev_func, put_of, get_of, upd_same, upd_ne, List.toList_toArray, List.map_cons, List.map_nil, some_map, none_map, ti3, ti83, ti5, ti29, ti22, quietC_cons, quietC_nil, inner_st, thenQ_same, thenQ_rd, h6, natOf_lit, idx_arr (ti96 ax) (ti29 ax) (show 0 < 4 by omega), idx_arr (ti96 ax) (ti29 ax) (show 1 < 4 by omega), idx_arr (ti96 ax) (ti29 ax) (show 2 < 4 by omega), QV 0 (by omega), QV 1 (by omega), QV 2 (by omega), MIY, bw_add, bw_and, bw_xor, I1]
    with_reducible rfl
  simp only [onN, onB]
  have SE := fun x => st_all (n := n1 + 1 + 1 + 1) (lim := lim) (rd := rd') (wr := wr) (ti96 ax) (f := n1 + 1 + 1) (u := (n1 + 1 + 1) * 1024 + 0) (vs := [vw (V.getD 3 0 + x), vw (E.getD 0 0), vw (E.getD 1 0), vw (E.getD 2 0)]) p5 rfl (by rw [wvs_len]; omega) rfl
  simp only [I2] at SE
  repeat apply W.seq
  apply W.region
  · simp (disch := first | omega | (simp (disch := omega) [ev_tmp, ev_const, get_of, upd_same, upd_ne, h6, h7, cells_vw, Tryd.underlying3, Tryd.underlying83, Tryd.underlying5, Tryd.underlying29, Tryd.underlying22]; done) | (apply inK_i64; omega) | (apply inK_u64; omega)) only [op_len, cond_true, cond_false, pick_on, stepC_if, goC_true, goC_false, guard_tt, guard_tf, guard_ft, guard_ff, slot_zero, slot_succ, put_some, runC_cons, runC_nil, stepC_free, dstC_dst, dstC_none, thenC_some, cop_assign, cop_move, cop_conv, cop_bin, cop_un, cop_pick, cop_index, cop_indexAddr, cop_load, cop_store, cop_alloc, cop_box, cop_build, cop_slice, cop_s2a, cop_field, cop_fieldAddr, cop_extract, cop_nilCheck, cop_call, cop_builtin, cop_buildSlice, ev_tmp, ev_const, ev_global, ev_func, put_of, get_of, upd_same, upd_ne, List.toList_toArray, List.map_cons, List.map_nil, some_map, none_map, ti3, ti83, ti5, ti29, ti22, h6, h7, natOf_lit, idx_arr (ti96 ax) (ti29 ax) (show 0 < 4 by omega), idx_arr (ti96 ax) (ti29 ax) (show 1 < 4 by omega), idx_arr (ti96 ax) (ti29 ax) (show 2 < 4 by omega), idx_arr (ti96 ax) (ti29 ax) (show 3 < 4 by omega), LV rd' 3 (by omega), LE rd' 0 (by omega), LE rd' 1 (by omega), LE rd' 2 (by omega), bw_add, build_arr4 (ti96 ax) (ti29 ax), cells_agg, SE]
    with_reducible rfl
  simp only [onN, onB]
  have p4' : ∀ x, fupd g' (n1 + 1 + 1) x (n1 + 1) = ⟨false, [((n1 + 1) * 1024 + 0, wvs V)], none⟩ := fun x => by rw [fupd_ne _ _ _ _ (by omega)]; exact p4
  have LV2 := fun (x : Fam) (k : Nat) (hk : k < 4) => ld_one (n := n1 + 1 + 1 + 1) (lim := lim) (rd := rd') (wr := wr) (ti29 ax) rfl (g := fupd g' (n1 + 1 + 1) x) (f := n1 + 1) (u := (n1 + 1) * 1024 + 0) (off := 0 + k) (cs := wvs V) (by rw [p4' x]; exact rowOf_one) (by rw [Nat.zero_add]; exact wvs_get (by omega))
  have SV := fun fm x => st_all (n := n1 + 1 + 1 + 1) (lim := lim) (rd := rd') (wr := wr) (ti96 ax) (f := n1 + 1) (u := (n1 + 1) * 1024 + 0) (vs := [vw x, vw (V.getD 0 0), vw (V.getD 1 0), vw (V.getD 2 0)]) (p4' fm) rfl (by rw [wvs_len]; omega) rfl
  simp only [I1] at SV LV2
  repeat apply W.seq
  apply W.region
  · simp (disch := first | omega | (simp (disch := omega) [ev_tmp, ev_const, get_of, upd_same, upd_ne, h6, cells_vw, Tryd.underlying3, Tryd.underlying83, Tryd.underlying5, Tryd.underlying29, Tryd.underlying22]; done) | (apply inK_i64; omega) | (apply inK_u64; omega)) only [op_len, cond_true, cond_false, pick_on, stepC_if, goC_true, goC_false, guard_tt, guard_tf, guard_ft, guard_ff, slot_zero, slot_succ, put_some, runC_cons, runC_nil, stepC_free, dstC_dst, dstC_none, thenC_some, cop_assign, cop_move, cop_conv, cop_bin, cop_un, cop_pick, cop_index, cop_indexAddr, cop_load, cop_store, cop_alloc, cop_box, cop_build, cop_slice, cop_s2a, cop_field, cop_fieldAddr, cop_extract, cop_nilCheck, cop_call, cop_builtin, cop_buildSlice, ev_tmp, ev_const, ev_global, ev_func, put_of, get_of, upd_same, upd_ne, List.toList_toArray, List.map_cons, List.map_nil, some_map, none_map, ti3, ti83, ti5, ti29, ti22, h6, natOf_lit, idx_arr (ti96 ax) (ti29 ax) (show 0 < 4 by omega), idx_arr (ti96 ax) (ti29 ax) (show 1 < 4 by omega), idx_arr (ti96 ax) (ti29 ax) (show 2 < 4 by omega), LV2 _ 0 (by omega), LV2 _ 1 (by omega), LV2 _ 2 (by omega), bw_add, build_arr4 (ti96 ax) (ti29 ax), cells_agg, SV]
    with_reducible rfl
  simp only [onN, onB]
  repeat apply W.seq
  apply W.region
  · simp (disch := first | omega | (simp (disch := omega) [ev_tmp, ev_const, get_of, upd_same, upd_ne, h22, Tryd.underlying3, Tryd.underlying83, Tryd.underlying5, Tryd.underlying29, Tryd.underlying22]; done) | (apply inK_i64; omega) | (apply inK_u64; omega)) only [op_len, cond_true, cond_false, pick_on, stepC_if, goC_true, goC_false, guard_tt, guard_tf, guard_ft, guard_ff, slot_zero, slot_succ, put_some, runC_cons, runC_nil, stepC_free, dstC_dst, dstC_none, thenC_some, cop_assign, cop_move, cop_conv, cop_bin, cop_un, cop_pick, cop_index, cop_indexAddr, cop_load, cop_store, cop_alloc, cop_box, cop_build, cop_slice, cop_s2a, cop_field, cop_fieldAddr, cop_extract, cop_nilCheck, cop_call, cop_builtin, cop_buildSlice, ev_tmp, ev_const, ev_global, ev_func, put_of, get_of, upd_same, upd_ne, List.toList_toArray, List.map_cons, List.map_nil, some_map, none_map, ti3, ti83, ti5, ti29, ti22, oi_add, h22]
    with_reducible rfl
  simp only [onN, onB]
  refine ⟨64 - (t + 1), by omega, t + 1, _, _, rd', by omega, rfl, rfl, rfl, ?_, ?_, ?_, ?_, ?_, ?_, ?_, ?_, ?_, ?_, ?_, ?_, ?_, hrd⟩
  · simp (disch := omega) only [upd_same, upd_ne, h2]
  · simp (disch := omega) only [upd_same, upd_ne, h4]
  · simp (disch := omega) only [upd_same, upd_ne, h6]
  · simp (disch := omega) only [upd_same, upd_ne, h7]
  · simp (disch := omega) only [upd_same, upd_ne, h5]
  · simp (disch := omega) only [upd_same, upd_ne, h21]
  · simp (disch := omega) only [upd_same, upd_ne]; rfl
  · rw [fupd_ne _ _ _ _ (by omega), fupd_ne _ _ _ _ (by omega)]; exact p1
  · rw [fupd_ne _ _ _ _ (by omega), fupd_ne _ _ _ _ (by omega)]; exact p2
  · rw [fupd_ne _ _ _ _ (by omega), fupd_ne _ _ _ _ (by omega)]; exact p3
  · rw [fupd_same, hstep]; rfl
  · rw [fupd_ne _ _ _ _ (by omega), fupd_same, hstep]; rfl
  · intro i hi; rw [fupd_ne _ _ _ _ (by omega), fupd_ne _ _ _ _ (by omega)]; exact p0 i hi
end Go.Proofs.YtcmfoipnoejmlaaDoor
namespace Go.Proofs.YtcmfoipnoejmlaaDoor
open Go Go.RowKit
set_option linter.unusedSimpArgs false
set_option linter.unusedVariables false
/-- reckon the number first -/
noncomputable def fc {α : Type} (n : Nat) (k : Nat → α) : α := Nat.rec (k 0) (fun m _ => k (Nat.succ m)) n
theorem fc_eq {α : Type} (n : Nat) (k : Nat → α) : fc n k = k n := by cases n <;> rfl
def addN (x y : Nat) : Nat := Nat.mod (Nat.add x y) 4294967296
def rotN (x i : Nat) : Nat := Nat.lor (Nat.mod (Nat.shiftLeft x (32 - i)) 4294967296) (Nat.shiftRight x i)
def mixN (x i j k : Nat) : Nat := Nat.xor (Nat.xor (rotN x i) (rotN x j)) (rotN x k)
def rxN (a b c d k w : Nat) : Nat := addN (addN (addN (addN d (mixN a 6 11 25)) (Nat.xor (Nat.land a b) (Nat.land (Nat.sub 4294967295 a) c))) k) w
def ryN (a b c : Nat) : Nat := addN (mixN a 2 13 22) (Nat.xor (Nat.xor (Nat.land a b) (Nat.land a c)) (Nat.land b c))
def sg0N (p : Nat) : Nat := Nat.xor (Nat.xor (rotN p 7) (rotN p 18)) (Nat.shiftRight p 3)
def sg1N (p : Nat) : Nat := Nat.xor (Nat.xor (rotN p 17) (rotN p 19)) (Nat.shiftRight p 10)
def nxN (a b c d : Nat) : Nat := addN (addN (addN a (sg0N b)) c) (sg1N d)
def stN (a b : Nat) : Nat := Nat.lor (Nat.mod (Nat.shiftLeft a 8) 4294967296) b
def wdN (b : List Nat) (i : Nat) : Nat := stN (stN (stN (stN 0 (b.getD (i + 0) 0)) (b.getD (i + 1) 0)) (b.getD (i + 2) 0)) (b.getD (i + 3) 0)
noncomputable def extN : Nat → Nat → Nat → Nat → Nat → Nat → Nat → Nat → Nat → Nat → Nat → Nat → Nat → Nat → Nat → Nat → Nat → List Nat
  | 0, w0, w1, w2, w3, w4, w5, w6, w7, w8, w9, w10, w11, w12, w13, w14, w15 => [w0, w1, w2, w3, w4, w5, w6, w7, w8, w9, w10, w11, w12, w13, w14, w15]
  | n + 1, w0, w1, w2, w3, w4, w5, w6, w7, w8, w9, w10, w11, w12, w13, w14, w15 => fc (nxN w0 w1 w9 w14) fun x => w0 :: extN n w1 w2 w3 w4 w5 w6 w7 w8 w9 w10 w11 w12 w13 w14 w15 x
noncomputable def rd8 : List Nat → List Nat → Nat → Nat → Nat → Nat → Nat → Nat → Nat → Nat → List Nat
  | w :: ws, k :: ks, a, b, c, d, e, f, g, h => fc (rxN e f g h k w) fun x => fc (addN x (ryN a b c)) fun a' => fc (addN d x) fun e' => rd8 ws ks a' a b c e' e f g
  | _, _, a, b, c, d, e, f, g, h => [a, b, c, d, e, f, g, h]
def sumN : List Nat → List Nat → List Nat
  | a :: l, b :: m => addN a b :: sumN l m
  | _, _ => []
noncomputable def compN (kt s b : List Nat) : List Nat :=
  sumN s (rd8 (extN 48 (wdN b 0) (wdN b 4) (wdN b 8) (wdN b 12) (wdN b 16) (wdN b 20) (wdN b 24) (wdN b 28) (wdN b 32) (wdN b 36) (wdN b 40) (wdN b 44) (wdN b 48) (wdN b 52) (wdN b 56) (wdN b 60)) kt (s.getD 0 0) (s.getD 1 0) (s.getD 2 0) (s.getD 3 0) (s.getD 4 0) (s.getD 5 0) (s.getD 6 0) (s.getD 7 0))
theorem t_add (x y : UInt32) : (x + y).toNat = addN x.toNat y.toNat := UInt32.toNat_add x y
theorem t_and (x y : UInt32) : (x &&& y).toNat = Nat.land x.toNat y.toNat := UInt32.toNat_and x y
theorem t_or (x y : UInt32) : (x ||| y).toNat = Nat.lor x.toNat y.toNat := UInt32.toNat_or x y
theorem t_xor (x y : UInt32) : (x ^^^ y).toNat = Nat.xor x.toNat y.toNat := UInt32.toNat_xor x y
theorem t_not (x : UInt32) : (~~~x).toNat = Nat.sub 4294967295 x.toNat := by
  have : (~~~x).toNat = 4294967295 - x.toNat := by rw [UInt32.toNat_not]; rfl
  exact this
theorem t_shl (x : UInt32) (n : Nat) : (shl32 x n).toNat = Nat.mod (Nat.shiftLeft x.toNat n) 4294967296 := by
  show (x.toBitVec <<< n).toNat = _
  rw [BitVec.toNat_shiftLeft]; rfl
theorem t_shr (x : UInt32) (n : Nat) : (shr32 x n).toNat = Nat.shiftRight x.toNat n := by
  show (x.toBitVec >>> n).toNat = _
  rw [BitVec.toNat_ushiftRight]; rfl
theorem t_rot (x : UInt32) (i : Nat) : (rotr32 x i).toNat = rotN x.toNat i := by unfold rotr32 rotN; rw [t_or, t_shl, t_shr]
theorem t_mix (x : UInt32) (i j k : Nat) : (mix32 x i j k).toNat = mixN x.toNat i j k := by unfold mix32 mixN; rw [t_xor, t_xor, t_rot, t_rot, t_rot]
theorem t_rx (e : List UInt32) (k w : UInt32) : (rx e k w).toNat = rxN (e.getD 0 0).toNat (e.getD 1 0).toNat (e.getD 2 0).toNat (e.getD 3 0).toNat k.toNat w.toNat := by
  unfold rx rxN
  simp only [t_add, t_mix, t_xor, t_and, t_not]
theorem t_ry (v : List UInt32) : (ry v).toNat = ryN (v.getD 0 0).toNat (v.getD 1 0).toNat (v.getD 2 0).toNat := by
  unfold ry ryN
  simp only [t_add, t_mix, t_xor, t_and]
theorem t_nx (w : List UInt32) (t : Nat) : (nextw w t).toNat = nxN (w.getD (t - 16) 0).toNat (w.getD (t - 15) 0).toNat (w.getD (t - 7) 0).toNat (w.getD (t - 2) 0).toNat := by
  unfold nextw nxN sig0 sig1 sg0N sg1N
  simp only [t_add, t_xor, t_rot, t_shr]
theorem t_byte (x : UInt8) : x.toUInt32.toNat = x.toNat := UInt8.toNat_toUInt32 x
theorem getD_map (l : List UInt8) (i : Nat) : (l.map UInt8.toNat).getD i 0 = (l.getD i 0).toNat := by
  rw [List.getD_eq_getElem?_getD, List.getD_eq_getElem?_getD, List.getElem?_map]
  cases l[i]? <;> rfl
theorem getW_map (l : List UInt32) (i : Nat) : (l.map UInt32.toNat).getD i 0 = (l.getD i 0).toNat := by
  rw [List.getD_eq_getElem?_getD, List.getD_eq_getElem?_getD, List.getElem?_map]
  cases l[i]? <;> rfl
theorem t_word (bs : List UInt8) (t : Nat) : (word bs t 4).toNat = wdN (bs.map UInt8.toNat) (4 * t) := by
  unfold wdN
  simp only [getD_map]
  simp only [word, t_or, t_shl, t_byte]
  rfl
theorem sched_keep (bs : List UInt8) (i : Nat) : ∀ m, i < m → (sched bs m).getD i 0 = (sched bs (i + 1)).getD i 0
  | 0, h => by omega
  | m + 1, h => by
    by_cases hm : m = i
    · subst hm; rfl
    · rw [sched, List.getD_eq_getElem?_getD, List.getElem?_set_ne hm, ← List.getD_eq_getElem?_getD]
      exact sched_keep bs i m (by omega)
theorem sched_get (bs : List UInt8) (i : Nat) (h : i < 64) : (sched bs 64).getD i 0 = if i < 16 then word bs i 4 else nextw (sched bs 64) i := by
  rw [sched_keep bs i 64 h]
  conv => lhs; rw [sched]
  rw [getD_set_same (by rw [sched_len]; exact h)]
  by_cases h16 : i < 16
  · rw [if_pos h16, if_pos h16]
  · rw [if_neg h16, if_neg h16]
    have k : ∀ j, j < i → (sched bs i).getD j 0 = (sched bs 64).getD j 0 := fun j hj => by rw [sched_keep bs j i hj, sched_keep bs j 64 (by omega)]
    unfold nextw
    rw [k _ (by omega), k _ (by omega), k _ (by omega), k _ (by omega)]
theorem drop_cons {α : Type} (l : List α) (t : Nat) (d : α) (h : t < l.length) : l.drop t = l.getD t d :: l.drop (t + 1) := by
  rw [List.drop_eq_getElem_cons h, List.getD_eq_getElem?_getD, List.getElem?_eq_getElem h]; rfl
theorem ext_eq (bs : List UInt8) : ∀ j t, t + 16 + j = 64 → extN j ((sched bs 64).getD t 0).toNat ((sched bs 64).getD (t + 1) 0).toNat ((sched bs 64).getD (t + 2) 0).toNat ((sched bs 64).getD (t + 3) 0).toNat ((sched bs 64).getD (t + 4) 0).toNat ((sched bs 64).getD (t + 5) 0).toNat ((sched bs 64).getD (t + 6) 0).toNat ((sched bs 64).getD (t + 7) 0).toNat ((sched bs 64).getD (t + 8) 0).toNat ((sched bs 64).getD (t + 9) 0).toNat ((sched bs 64).getD (t + 10) 0).toNat ((sched bs 64).getD (t + 11) 0).toNat ((sched bs 64).getD (t + 12) 0).toNat ((sched bs 64).getD (t + 13) 0).toNat ((sched bs 64).getD (t + 14) 0).toNat ((sched bs 64).getD (t + 15) 0).toNat = ((sched bs 64).drop t).map UInt32.toNat
  | 0, t, h => by
    have hl := sched_len bs 64
    have ht : t = 48 := by omega
    subst ht
    rw [extN]
    rw [drop_cons (sched bs 64) 48 0 (by omega)]; rw [drop_cons (sched bs 64) 49 0 (by omega)]; rw [drop_cons (sched bs 64) 50 0 (by omega)]; rw [drop_cons (sched bs 64) 51 0 (by omega)]; rw [drop_cons (sched bs 64) 52 0 (by omega)]; rw [drop_cons (sched bs 64) 53 0 (by omega)]; rw [drop_cons (sched bs 64) 54 0 (by omega)]; rw [drop_cons (sched bs 64) 55 0 (by omega)]; rw [drop_cons (sched bs 64) 56 0 (by omega)]; rw [drop_cons (sched bs 64) 57 0 (by omega)]; rw [drop_cons (sched bs 64) 58 0 (by omega)]; rw [drop_cons (sched bs 64) 59 0 (by omega)]; rw [drop_cons (sched bs 64) 60 0 (by omega)]; rw [drop_cons (sched bs 64) 61 0 (by omega)]; rw [drop_cons (sched bs 64) 62 0 (by omega)]; rw [drop_cons (sched bs 64) 63 0 (by omega)]; 
    rw [List.drop_of_length_le (by omega)]
    all_goals rfl
  | j + 1, t, h => by
    have hl := sched_len bs 64
    rw [extN, fc_eq, drop_cons (sched bs 64) t 0 (by omega), List.map_cons]
    have e := ext_eq bs j (t + 1) (by omega)
    have hx : nxN ((sched bs 64).getD t 0).toNat ((sched bs 64).getD (t + 1) 0).toNat ((sched bs 64).getD (t + 9) 0).toNat ((sched bs 64).getD (t + 14) 0).toNat = ((sched bs 64).getD (t + 1 + 15) 0).toNat := by
      rw [sched_get bs (t + 1 + 15) (by omega), if_neg (by omega), t_nx]
      rw [show t + 1 + 15 - 16 = t by omega, show t + 1 + 15 - 15 = t + 1 by omega, show t + 1 + 15 - 7 = t + 9 by omega, show t + 1 + 15 - 2 = t + 14 by omega]
    rw [hx, ← e]
theorem rd8_nil (ks : List Nat) (a b c d e f g h : Nat) : rd8 [] ks a b c d e f g h = [a, b, c, d, e, f, g, h] := by cases ks <;> rfl
theorem rd8_eq (s w kt : List UInt32) (hw : w.length = 64) (hk : kt.length = 64) : ∀ j t, t + j = 64 → rd8 ((w.drop t).map UInt32.toNat) ((kt.drop t).map UInt32.toNat) ((rds s w kt t).1.getD 0 0).toNat ((rds s w kt t).1.getD 1 0).toNat ((rds s w kt t).1.getD 2 0).toNat ((rds s w kt t).1.getD 3 0).toNat ((rds s w kt t).2.getD 0 0).toNat ((rds s w kt t).2.getD 1 0).toNat ((rds s w kt t).2.getD 2 0).toNat ((rds s w kt t).2.getD 3 0).toNat
    = [((rds s w kt 64).1.getD 0 0).toNat, ((rds s w kt 64).1.getD 1 0).toNat, ((rds s w kt 64).1.getD 2 0).toNat, ((rds s w kt 64).1.getD 3 0).toNat, ((rds s w kt 64).2.getD 0 0).toNat, ((rds s w kt 64).2.getD 1 0).toNat, ((rds s w kt 64).2.getD 2 0).toNat, ((rds s w kt 64).2.getD 3 0).toNat]
  | 0, t, h => by
    have ht : t = 64 := by omega
    subst ht
    rw [List.drop_of_length_le (by omega), List.map_nil, rd8_nil]
  | j + 1, t, h => by
    have e := rd8_eq s w kt hw hk j (t + 1) (by omega)
    rw [drop_cons w t 0 (by omega), drop_cons kt t 0 (by omega), List.map_cons, List.map_cons, rd8, fc_eq, fc_eq, fc_eq, ← t_rx, ← t_ry, ← t_add, ← t_add, ← e]
    rfl
theorem len4 {l : List UInt32} (h : l.length = 4) : ∃ a b c d, l = [a, b, c, d] := by
  match l, h with
  | [a, b, c, d], _ => exact ⟨a, b, c, d, rfl⟩
theorem len8 {l : List UInt32} (h : l.length = 8) : ∃ a b c d e f g k, l = [a, b, c, d, e, f, g, k] := by
  match l, h with
  | [a, b, c, d, e, f, g, k], _ => exact ⟨a, b, c, d, e, f, g, k, rfl⟩
theorem comp_eq (kt s : List UInt32) (bs : List UInt8) (hs : s.length = 8) (hk : kt.length = 64) : (comp kt s bs).map UInt32.toNat = compN (kt.map UInt32.toNat) (s.map UInt32.toNat) (bs.map UInt8.toNat) := by
  unfold compN
  have hx : extN 48 (wdN (bs.map UInt8.toNat) 0) (wdN (bs.map UInt8.toNat) 4) (wdN (bs.map UInt8.toNat) 8) (wdN (bs.map UInt8.toNat) 12) (wdN (bs.map UInt8.toNat) 16) (wdN (bs.map UInt8.toNat) 20) (wdN (bs.map UInt8.toNat) 24) (wdN (bs.map UInt8.toNat) 28) (wdN (bs.map UInt8.toNat) 32) (wdN (bs.map UInt8.toNat) 36) (wdN (bs.map UInt8.toNat) 40) (wdN (bs.map UInt8.toNat) 44) (wdN (bs.map UInt8.toNat) 48) (wdN (bs.map UInt8.toNat) 52) (wdN (bs.map UInt8.toNat) 56) (wdN (bs.map UInt8.toNat) 60) = (sched bs 64).map UInt32.toNat := by
    have h := ext_eq bs 48 0 rfl
    rw [List.drop_zero] at h
    rw [← h]
    have g : ∀ i, i < 16 → ((sched bs 64).getD i 0).toNat = wdN (bs.map UInt8.toNat) (4 * i) := fun i hi => by rw [sched_get bs i (by omega), if_pos hi, t_word]
    simp only [Nat.zero_add, g 0 (by omega), g 1 (by omega), g 2 (by omega), g 3 (by omega), g 4 (by omega), g 5 (by omega), g 6 (by omega), g 7 (by omega), g 8 (by omega), g 9 (by omega), g 10 (by omega), g 11 (by omega), g 12 (by omega), g 13 (by omega), g 14 (by omega), g 15 (by omega), Nat.reduceMul]
  rw [hx]
  have h := rd8_eq s (sched bs 64) kt (sched_len _ _) hk 64 0 rfl
  rw [List.drop_zero, List.drop_zero] at h
  have d0 : rds s (sched bs 64) kt 0 = (s.take 4, s.drop 4) := rfl
  rw [d0] at h
  obtain ⟨l1, l2⟩ := rds_len s (sched bs 64) kt hs 64
  unfold comp
  generalize rds s (sched bs 64) kt 64 = p at *
  obtain ⟨V, E⟩ := p
  obtain ⟨a, b, c, d, e, f, g, k, rfl⟩ := len8 hs
  obtain ⟨v0, v1, v2, v3, rfl⟩ := len4 l1
  obtain ⟨e0, e1, e2, e3, rfl⟩ := len4 l2
  simp only [getW_map]
  have h' : rd8 ((sched bs 64).map UInt32.toNat) (kt.map UInt32.toNat) a.toNat b.toNat c.toNat d.toNat e.toNat f.toNat g.toNat k.toNat = [v0.toNat, v1.toNat, v2.toNat, v3.toNat, e0.toNat, e1.toNat, e2.toNat, e3.toNat] := h
  show _ = sumN _ (rd8 ((sched bs 64).map UInt32.toNat) (kt.map UInt32.toNat) a.toNat b.toNat c.toNat d.toNat e.toNat f.toNat g.toNat k.toNat)
  rw [h']
  show [_, _, _, _, _, _, _, _] = _
  rfl
end Go.Proofs.YtcmfoipnoejmlaaDoor
namespace Go.Proofs.YtcmfoipnoejmlaaDoor
open Go Go.RowKit
set_option linter.unusedVariables false
/-- reckon a list of numbers first -/
noncomputable def fcL {α : Type} : List Nat → (List Nat → α) → α
  | [], k => k []
  | n :: l, k => fc n fun n' => fcL l fun l' => k (n' :: l')
theorem fcL_eq {α : Type} : ∀ (l : List Nat) (k : List Nat → α), fcL l k = k l
  | [], k => rfl
  | n :: l, k => by rw [fcL, fc_eq, fcL_eq l]
/-- words and bytes out of cells -/
noncomputable def wordsN : List Value → Option (List Nat)
  | [] => some []
  | .int .u32 (.ofNat n) :: l => bif Nat.blt n 4294967296 then (match wordsN l with | some r => some (n :: r) | none => none) else none
  | _ :: _ => none
noncomputable def bytesN : List Value → Option (List Nat)
  | [] => some []
  | .int .u8 (.ofNat n) :: l => bif Nat.blt n 256 then (match bytesN l with | some r => some (n :: r) | none => none) else none
  | _ :: _ => none
theorem wordsN_out : ∀ {l : List Value} {r : List Nat}, wordsN l = some r → ∃ w : List UInt32, l = wvs w ∧ r = w.map UInt32.toNat
  | [], r, h => by simp [wordsN] at h; subst h; exact ⟨[], rfl, rfl⟩
  | v :: l, r, h => by
    unfold wordsN at h
    split at h
    · simp_all
    · rename_i n l' heq
      simp only [List.cons.injEq] at heq
      obtain ⟨rfl, rfl⟩ := heq
      cases hb : Nat.blt n 4294967296 with
      | false => rw [hb] at h; simp at h
      | true =>
        rw [hb] at h
        simp only [cond_true] at h
        have hn := blt_iff.1 hb
        cases hq : wordsN l with
        | none => rw [hq] at h; simp at h
        | some r' =>
          rw [hq] at h
          simp only [Option.some.injEq] at h
          subst h
          obtain ⟨w, rfl, rfl⟩ := wordsN_out hq
          have he : (UInt32.ofNat n).toNat = n := UInt32.toNat_ofNat_of_lt' hn
          refine ⟨UInt32.ofNat n :: w, ?_, ?_⟩
          · show _ = vw (UInt32.ofNat n) :: wvs w
            unfold vw
            rw [he]; rfl
          · rw [List.map_cons, he]
    · simp at h
theorem bytesN_out : ∀ {l : List Value} {r : List Nat}, bytesN l = some r → ∃ w : List UInt8, l = bvs w ∧ r = w.map UInt8.toNat
  | [], r, h => by simp [bytesN] at h; subst h; exact ⟨[], rfl, rfl⟩
  | v :: l, r, h => by
    unfold bytesN at h
    split at h
    · simp_all
    · rename_i n l' heq
      simp only [List.cons.injEq] at heq
      obtain ⟨rfl, rfl⟩ := heq
      cases hb : Nat.blt n 256 with
      | false => rw [hb] at h; simp at h
      | true =>
        rw [hb] at h
        simp only [cond_true] at h
        have hn := blt_iff.1 hb
        cases hq : bytesN l with
        | none => rw [hq] at h; simp at h
        | some r' =>
          rw [hq] at h
          simp only [Option.some.injEq] at h
          subst h
          obtain ⟨w, rfl, rfl⟩ := bytesN_out hq
          have he : (UInt8.ofNat n).toNat = n := UInt8.toNat_ofNat_of_lt' hn
          refine ⟨UInt8.ofNat n :: w, ?_, ?_⟩
          · show _ = vb (UInt8.ofNat n) :: bvs w
            unfold vb
            rw [he]; rfl
          · rw [List.map_cons, he]
    · simp at h
theorem wordsN_in : ∀ (w : List UInt32), wordsN (wvs w) = some (w.map UInt32.toNat)
  | [] => rfl
  | x :: w => by
    show (bif Nat.blt x.toNat 4294967296 then (match wordsN (wvs w) with | some r => some (x.toNat :: r) | none => none) else none) = _
    rw [wordsN_in w, blt_ok x.toNat_lt]; rfl
theorem bytesN_in : ∀ (w : List UInt8), bytesN (bvs w) = some (w.map UInt8.toNat)
  | [] => rfl
  | x :: w => by
    show (bif Nat.blt x.toNat 256 then (match bytesN (bvs w) with | some r => some (x.toNat :: r) | none => none) else none) = _
    rw [bytesN_in w, blt_ok x.toNat_lt]; rfl
noncomputable def natW (n : Nat) : Value := .int .u32 (.ofNat n)
theorem natW_map (w : List UInt32) : (w.map UInt32.toNat).map natW = wvs w := by rw [List.map_map]; rfl
/-- all that hash.compress must find -/
noncomputable def compOk (s : CS) (a : Addr) (u len cap : Nat) (sN bN kN : List Nat) : Bool :=
  Nat.beq len 64 && (Nat.ble len cap && (Nat.blt cap 1000000000 && (Nat.beq sN.length 8 && (Nat.beq bN.length 64 && (Nat.beq kN.length 64 && (Nat.blt a.block s.n && (Nat.blt 1 s.n && (Nat.beq (u % 1024) 0 || Nat.beq (u % 1024) 2))))))))
noncomputable def hComp3 (s : CS) (a : Addr) (u len cap : Nat) : Option (List Nat) → Option (List Nat) → Option (List Nat) → Option (Value × CS)
  | some sN, some bN, some kN => bif compOk s a u len cap sN bN kN then
      fcL sN fun sN => fcL bN fun bN => fcL kN fun kN => fcL (compN kN sN bN) fun r => some (.agg (r.map natW).toArray, { s with n := s.n + 7, rd := ins s.lim (ins s.lim s.rd a.block) 1 }) else none
  | _, _, _ => none
noncomputable def hComp2 (s : CS) (ws : List Value) (a : Addr) (u len cap : Nat) : Option (List Value) → Option (List Value) → Option (Value × CS)
  | some cs, some kc => hComp3 s a u len cap (wordsN ws) (bytesN ((cs.drop a.off).take 64)) (wordsN kc)
  | _, _ => none
noncomputable def hComp : List Value → CS → Option (Value × CS)
  | [.agg ws, .slice (some ⟨f, o, some u⟩) len cap], s => hComp2 s ws.toList ⟨f, o, some u⟩ u len cap (rowOf (objAt s.obj f).rows u) (rowOf (objAt s.obj 1).rows (1 * 1024))
  | _, _ => none
theorem ins_in {lim f : Nat} {l : List Nat} (h : f < lim) : f ∈ ins lim l f := by
  rcases @ins_self lim l f with k | k
  · exact k
  · omega
theorem hComp_eq (kt st : List UInt32) (bs : List UInt8) (f u o len cap : Nat) (s : CS) (cs : List Value) (hr : rowOf (objAt s.obj f).rows u = some cs) (hc : (cs.drop o).take 64 = bvs bs) (hk : rowOf (objAt s.obj 1).rows (1 * 1024) = some (wvs kt)) (hs : st.length = 8) (hkt : kt.length = 64) (hb : bs.length = 64) (hlen : len = 64) (hcap : len ≤ cap) (hcap2 : cap < 1000000000) (hf : f < s.n) (hG : 1 < s.n) (hu : u % 1024 = 0 ∨ u % 1024 = 2) :
    hComp [.agg (wvs st).toArray, .slice (some (mkA f u o)) len cap] s = some (.agg (wvs (comp kt st bs)).toArray, { s with n := s.n + 7, rd := ins s.lim (ins s.lim s.rd f) 1 }) := by
  show hComp2 s (wvs st).toArray.toList (mkA f u o) u len cap _ _ = _
  rw [hr, hk]
  show hComp3 s (mkA f u o) u len cap (wordsN (wvs st).toArray.toList) (bytesN ((cs.drop o).take 64)) (wordsN (wvs kt)) = _
  rw [List.toList_toArray, hc, wordsN_in, wordsN_in, bytesN_in]
  unfold hComp3
  have hok : compOk s (mkA f u o) u len cap (st.map UInt32.toNat) (bs.map UInt8.toNat) (kt.map UInt32.toNat) = true := by
    unfold compOk
    rw [List.length_map, List.length_map, List.length_map, beq_ok hlen, ble_ok hcap, blt_ok hcap2, beq_ok hs, beq_ok hb, beq_ok hkt, block_mk, blt_ok hf, blt_ok hG]
    rcases hu with hu | hu
    · rw [beq_ok hu]; rfl
    · rw [beq_ok hu]; simp
  simp only [hok, cond_true, fcL_eq]
  rw [← comp_eq kt st bs hs hkt, natW_map]
  rfl
theorem hComp_out {args : List Value} {s : CS} {r : Value × CS} (h : hComp args s = some r) : ∃ (kt st : List UInt32) (bs : List UInt8) (f u o len cap : Nat) (cs : List Value), args = [.agg (wvs st).toArray, .slice (some (mkA f u o)) len cap] ∧ r = (.agg (wvs (comp kt st bs)).toArray, { s with n := s.n + 7, rd := ins s.lim (ins s.lim s.rd f) 1 })
    ∧ rowOf (objAt s.obj f).rows u = some cs ∧ (cs.drop o).take 64 = bvs bs ∧ rowOf (objAt s.obj 1).rows (1 * 1024) = some (wvs kt) ∧ st.length = 8 ∧ kt.length = 64 ∧ bs.length = 64 ∧ len = 64 ∧ len ≤ cap ∧ cap < 1000000000 ∧ f < s.n ∧ 1 < s.n ∧ (u % 1024 = 0 ∨ u % 1024 = 2) := by
  unfold hComp at h
  split at h
  · rename_i ws f o u len cap
    cases h1 : rowOf (objAt s.obj f).rows u with
    | none => rw [h1] at h; simp [hComp2] at h
    | some cs =>
      cases h2 : rowOf (objAt s.obj 1).rows (1 * 1024) with
      | none => rw [h1, h2] at h; simp [hComp2] at h
      | some kc =>
        rw [h1, h2] at h
        simp only [hComp2] at h
        cases h3 : wordsN ws.toList with
        | none => rw [h3] at h; simp [hComp3] at h
        | some sN =>
          cases h4 : bytesN ((cs.drop o).take 64) with
          | none => rw [h3, h4] at h; simp [hComp3] at h
          | some bN =>
            cases h5 : wordsN kc with
            | none => rw [h3, h4, h5] at h; simp [hComp3] at h
            | some kN =>
              rw [h3, h4, h5] at h
              simp only [hComp3, fcL_eq] at h
              cases h6 : compOk s ⟨f, o, some u⟩ u len cap sN bN kN with
              | false => rw [h6] at h; simp at h
              | true =>
                rw [h6] at h
                simp only [cond_true, Option.some.injEq] at h
                obtain ⟨st, e1, rfl⟩ := wordsN_out h3
                obtain ⟨bs, e2, rfl⟩ := bytesN_out h4
                obtain ⟨kt, rfl, rfl⟩ := wordsN_out h5
                unfold compOk at h6
                simp only [Bool.and_eq_true, Bool.or_eq_true, List.length_map] at h6
                obtain ⟨a1, a2, a3, a4, a5, a6, a7, a8, a9⟩ := h6
                have b4 := Nat.eq_of_beq_eq_true a4
                have b6 := Nat.eq_of_beq_eq_true a6
                refine ⟨kt, st, bs, f, u, o, len, cap, cs, ?_, ?_, h1, e2, rfl, b4, b6, Nat.eq_of_beq_eq_true a5, Nat.eq_of_beq_eq_true a1, ble_iff.1 a2, blt_iff.1 a3, blt_iff.1 a7, blt_iff.1 a8, a9.imp Nat.eq_of_beq_eq_true Nat.eq_of_beq_eq_true⟩
                · rw [← e1]; rfl
                · rw [← h, ← comp_eq kt st bs b4 b6, natW_map]
  · simp at h
theorem hComp_ok : AxOk Tryd.prog GG 53 hComp := by
  refine ax_of (L := LL) (ax := fun _ => none) mixed funcs_ok AxsOk.none rfl (fn53 fun _ => none) rfl ?_
  intro args s v s' h hI
  obtain ⟨kt, st, bs, f, u, o, len, cap, cs, rfl, hr, h1, h2, h3, h4, h5, h6, h7, h8, h9, h10, h11, h12⟩ := hComp_out h
  simp only [Prod.mk.injEq] at hr
  obtain ⟨rfl, rfl⟩ := hr
  have hb : BSl (objAt s.obj) s.n f u o len cap bs := by
    refine ⟨h10, h12, h8, by omega, cs, h1, fun i hi => ?_⟩
    have : (bvs bs)[i]? = some (vb (bs.getD i 0)) := bvs_get (by omega)
    rw [← h2, List.getElem?_take_of_lt (by omega), List.getElem?_drop] at this
    exact this
  obtain ⟨n', g', rd', e1, k1, k2, k3, k4⟩ := comp_run (fun _ => none) (fun f _ => rfl) rfl kt st bs f u o len cap s.n (objAt s.obj) s.lim s.rd s.wr hI.lim hb h7 h9 h4 h5 h11 h3
  refine ⟨?_, rfl, rfl, rfl, ?_, Nat.le_add_right _ _, St n' g' s.lim rd' s.wr, e1, k2, ?_, fun x hx => hx, fun f hf => k3 f hf⟩
  · show (wvs (comp kt st bs)).toArray.toList.all (plainV 2) = true
    rw [List.toList_toArray]; exact wvs_plain _
  · intro x hx; exact ins_mem (ins_mem hx)
  · intro x hx
    rcases k4 x hx with hx | ⟨rfl | rfl, hq⟩
    · exact ins_mem (ins_mem hx)
    · exact ins_mem (ins_in hq)
    · exact ins_in hq
end Go.Proofs.YtcmfoipnoejmlaaDoor
