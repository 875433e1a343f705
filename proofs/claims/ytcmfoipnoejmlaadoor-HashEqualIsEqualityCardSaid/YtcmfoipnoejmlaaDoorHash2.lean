/- The code of the hash layer in the plain machine, second part: Equal. -/
import Derived.Test.YtcmfoipnoejmlaaDoorHash1
namespace Go.Proofs.YtcmfoipnoejmlaaDoor
open Go Go.RowKit
set_option linter.unusedSimpArgs false
set_option linter.unusedVariables false
/-- the differences of two lists of bytes so far -/
def diffU (a b : List UInt8) : Nat → UInt8
  | 0 => 0
  | i + 1 => diffU a b i ||| (a.getD i 0 ^^^ b.getD i 0)
theorem or_zero (x y : UInt8) : x ||| y = 0 ↔ x = 0 ∧ y = 0 := by
  constructor
  · intro h
    have h1 : x.toBitVec ||| y.toBitVec = 0#8 := congrArg UInt8.toBitVec h
    have hx : x.toBitVec = 0#8 := by
      apply BitVec.eq_of_getLsbD_eq
      intro i hi
      have := congrArg (fun v => v.getLsbD i) h1
      simp only [BitVec.getLsbD_or, BitVec.getLsbD_zero, Bool.or_eq_false_iff] at this
      rw [this.1]; simp
    have hy : y.toBitVec = 0#8 := by
      apply BitVec.eq_of_getLsbD_eq
      intro i hi
      have := congrArg (fun v => v.getLsbD i) h1
      simp only [BitVec.getLsbD_or, BitVec.getLsbD_zero, Bool.or_eq_false_iff] at this
      rw [this.2]; simp
    exact ⟨UInt8.toBitVec_inj.1 hx, UInt8.toBitVec_inj.1 hy⟩
  · rintro ⟨rfl, rfl⟩; rfl
theorem xor_zero (x y : UInt8) : x ^^^ y = 0 ↔ x = y := by
  constructor
  · intro h
    have h1 : x.toBitVec ^^^ y.toBitVec = 0#8 := congrArg UInt8.toBitVec h
    apply UInt8.toBitVec_inj.1
    apply BitVec.eq_of_getLsbD_eq
    intro i hi
    have := congrArg (fun v => v.getLsbD i) h1
    simpa using this
  · rintro rfl; exact UInt8.xor_self
theorem diff_zero (a b : List UInt8) : ∀ n, diffU a b n = 0 ↔ ∀ i, i < n → a.getD i 0 = b.getD i 0
  | 0 => by simp [diffU]
  | n + 1 => by
    rw [diffU, or_zero, xor_zero, diff_zero a b n]
    constructor
    · rintro ⟨h1, h2⟩ i hi
      by_cases hin : i = n
      · subst hin; exact h2
      · exact h1 i (by omega)
    · intro h
      exact ⟨fun i hi => h i (by omega), h n (by omega)⟩
theorem diff_eq (a b : ByteArray) (h : a.size = b.size) : (diffU a.data.toList b.data.toList a.size = 0) ↔ a = b := by
  rw [diff_zero]
  constructor
  · intro hi
    apply ByteArray.ext
    apply Array.toList_inj.1
    apply List.ext_getElem
    · simpa using h
    · intro i h1 h2
      have h3 : i < a.size := by simpa using h1
      have := hi i h3
      rw [List.getD_eq_getElem?_getD, List.getD_eq_getElem?_getD, List.getElem?_eq_getElem h1, List.getElem?_eq_getElem h2] at this
      exact this
  · rintro rfl i _; rfl
theorem str_at (b : ByteArray) (k : Nat) (h : k < b.size) : b.data.toList[k]? = some (b.data.toList.getD k 0) := by
  have h1 : k < b.data.toList.length := by simpa using h
  rw [List.getD_eq_getElem?_getD, List.getElem?_eq_getElem h1]; rfl
theorem vb0 : Value.int .u8 0 = vb 0 := rfl
theorem vb_eq0 (x : UInt8) : (decide ((x.toNat : Int) = 0)) = decide (x = 0) := by
  congr 1
  rw [eq_iff_iff]
  constructor
  · intro h; apply UInt8.toNat_inj.1; have : x.toNat = 0 := by omega
    rw [this]; rfl
  · rintro rfl; rfl
theorem natOf_cast (k : IntKind) (n : Nat) : natOf (.int k (n : Int)) = some n := Eq.trans rfl rfl
theorem vb_def (c : UInt8) : Value.int .u8 (c.toNat : Int) = vb c := Eq.trans rfl rfl
theorem equal_run (ax : Axs) (hp : Plain ax) (a b : ByteArray) (s : CS) (ha : a.size < 1000000) : callR Tryd.prog (EE ax) 30 [.string a, .string b] s = some (.bool (decide (a = b)), s) := by
  have hax : ax 30 = none := hp _ (by decide)
  obtain ⟨n, ob, lim, rd, wr⟩ := s
  refine callR_go (fn := Tryd.f30) 29 hax (fn30 ax) rfl Tryd.ntmps30 (by simp) ?_
  simp (disch := omega) only [ofArgs_cons, ofArgs_nil, Nat.reduceAdd]
  apply W.seq
  apply W.region
  · simp (disch := first | omega | (simp (disch := omega) [ev_tmp, ev_const, get_of, upd_same, upd_ne, Tryd.underlying83, Tryd.underlying3, Tryd.underlying29, Tryd.underlying5]; done) | (apply inK_i64; omega) | (apply inK_u64; omega)) only [runC_cons, runC_nil, stepC_free, dstC_dst, dstC_none, thenC_some, cop_assign, cop_move, cop_conv, cop_bin, cop_un, ev_tmp, ev_const, put_of, get_of, upd_same, upd_ne, opConvert, ti3, ti83, ti29, ti5, ti9, opBuiltin, opLen, cop_builtin, List.toList_toArray]
    with_reducible rfl
  simp only [onN]
  apply W.seq
  apply W.seq
  apply W.region
  · simp (disch := first | omega | (simp (disch := omega) [ev_tmp, ev_const, get_of, upd_same, upd_ne, Tryd.underlying83, Tryd.underlying3, Tryd.underlying29, Tryd.underlying5]; done) | (apply inK_i64; omega) | (apply inK_u64; omega)) only [runC_cons, runC_nil, stepC_free, dstC_dst, dstC_none, thenC_some, cop_assign, cop_move, cop_conv, cop_bin, cop_un, ev_tmp, ev_const, put_of, get_of, upd_same, upd_ne, opConvert, ti3, ti83, ti29, ti5, ti9, opBuiltin, opLen, cop_builtin, List.toList_toArray, oi_neq]
    with_reducible rfl
  simp only [onN]
  by_cases hs : (a.size : Int) = b.size
  case neg =>
    refine W.cond (b := true) ?_ ?_
    · simp (disch := omega) only [ev_tmp, get_of, upd_same, ne_eq, hs, not_false_eq_true, decide_true]
    simp only [cond_true]
    apply W.seq
    apply W.region
    · simp (disch := first | omega | (simp (disch := omega) [ev_tmp, ev_const, get_of, upd_same, upd_ne, Tryd.underlying83, Tryd.underlying3, Tryd.underlying29, Tryd.underlying5]; done) | (apply inK_i64; omega) | (apply inK_u64; omega)) only [runC_cons, runC_nil, stepC_free, dstC_dst, dstC_none, thenC_some, cop_assign, cop_move, cop_conv, cop_bin, cop_un, ev_tmp, ev_const, put_of, get_of, upd_same, upd_ne, opConvert, ti3, ti83, ti29, ti5, ti9, opBuiltin, opLen, cop_builtin, List.toList_toArray]
      with_reducible rfl
    simp only [onN]
    apply W.ret
    refine ⟨.inr rfl, [.bool (decide (a = b))], ?_, rfl⟩
    rw [show decide (a = b) = false from decide_eq_false fun h => hs (by rw [h])]
    simp (disch := omega) only [resC, Tryd.results30, get_of, upd_same]
    all_goals rfl
  have hs' : a.size = b.size := by omega
  refine W.cond (b := false) ?_ ?_
  · simp (disch := omega) only [ev_tmp, get_of, upd_same, ne_eq, hs, not_true_eq_false, decide_false]
  simp only [cond_false]
  apply W.skip
  simp only [onN]
  apply W.seq
  apply W.region
  · simp (disch := first | omega | (simp (disch := omega) [ev_tmp, ev_const, get_of, upd_same, upd_ne, Tryd.underlying83, Tryd.underlying3, Tryd.underlying29, Tryd.underlying5]; done) | (apply inK_i64; omega) | (apply inK_u64; omega)) only [runC_cons, runC_nil, stepC_free, dstC_dst, dstC_none, thenC_some, cop_assign, cop_move, cop_conv, cop_bin, cop_un, ev_tmp, ev_const, put_of, get_of, upd_same, upd_ne, opConvert, ti3, ti83, ti29, ti5, ti9, opBuiltin, opLen, cop_builtin, List.toList_toArray]
    with_reducible rfl
  simp only [onN]
  apply W.seq
  apply W.seq
  apply W.region
  · simp (disch := first | omega | (simp (disch := omega) [ev_tmp, ev_const, get_of, upd_same, upd_ne, Tryd.underlying83, Tryd.underlying3, Tryd.underlying29, Tryd.underlying5]; done) | (apply inK_i64; omega) | (apply inK_u64; omega)) only [runC_cons, runC_nil, stepC_free, dstC_dst, dstC_none, thenC_some, cop_assign, cop_move, cop_conv, cop_bin, cop_un, ev_tmp, ev_const, put_of, get_of, upd_same, upd_ne, opConvert, ti3, ti83, ti29, ti5, ti9, opBuiltin, opLen, cop_builtin, List.toList_toArray]
    with_reducible rfl
  simp only [onN]
  apply W.block
  refine W.loop (fun m fr s => ∃ (i : Nat) (h : Nat → Value), i ≤ a.size ∧ m = a.size - i ∧ fr = Fr.of 29 h ∧ h 0 = .string a ∧ h 1 = .string b ∧ h 13 = .int .i64 (a.size : Int) ∧ h 14 = .int .i64 (i : Int) ∧ h 5 = vb (diffU a.data.toList b.data.toList i) ∧ s = ⟨n, ob, lim, rd, wr⟩) ?_ (a.size - 0) _ _ ⟨0, _, by omega, rfl, rfl, ?_, ?_, ?_, ?_, ?_, rfl⟩
  case refine_2 => simp (disch := omega) only [upd_same, upd_ne]
  case refine_3 => simp (disch := omega) only [upd_same, upd_ne]
  case refine_4 => simp (disch := omega) only [upd_same, upd_ne]
  case refine_5 => simp (disch := omega) only [upd_same, upd_ne]; rfl
  case refine_6 => simp (disch := omega) only [upd_same, upd_ne]; rfl
  rintro m fr s ⟨i, h, hi, rfl, rfl, h0, h1, h13, h14, h5, rfl⟩
  apply W.seq
  apply W.region
  · simp (disch := first | omega | (simp (disch := omega) [ev_tmp, ev_const, get_of, upd_same, upd_ne, h0, h1, h5, h13, h14, Tryd.underlying83, Tryd.underlying3, Tryd.underlying29, Tryd.underlying5]; done) | (apply inK_i64; omega) | (apply inK_u64; omega)) only [runC_cons, runC_nil, stepC_free, dstC_dst, dstC_none, thenC_some, cop_assign, cop_move, cop_conv, cop_bin, cop_un, ev_tmp, ev_const, put_of, get_of, upd_same, upd_ne, opConvert, ti3, ti83, ti29, ti5, ti9, opBuiltin, opLen, cop_builtin, List.toList_toArray, h0, h1, h13, h14, oi_lss]
    with_reducible rfl
  simp only [onN]
  apply W.seq
  by_cases hlt : (i : Int) < a.size
  case neg =>
    refine W.cond (b := false) ?_ ?_
    · simp (disch := omega) only [ev_tmp, get_of, upd_same, hlt, decide_false]
    simp only [cond_false]
    apply W.exit
    simp only [onN, onB, Nat.beq_refl, cond_true]
    have hie : i = a.size := by omega
    subst hie
    apply W.seq
    apply W.region
    · simp (disch := first | omega | (simp (disch := omega) [ev_tmp, ev_const, get_of, upd_same, upd_ne, h0, h1, h5, h13, h14, Tryd.underlying83, Tryd.underlying3, Tryd.underlying29, Tryd.underlying5]; done) | (apply inK_i64; omega) | (apply inK_u64; omega)) only [runC_cons, runC_nil, stepC_free, dstC_dst, dstC_none, thenC_some, cop_assign, cop_move, cop_conv, cop_bin, cop_un, ev_tmp, ev_const, put_of, get_of, upd_same, upd_ne, opConvert, ti3, ti83, ti29, ti5, ti9, opBuiltin, opLen, cop_builtin, List.toList_toArray, h5, oi_eql, vb, vb0]
      with_reducible rfl
    simp only [onN]
    apply W.ret
    refine ⟨.inr rfl, [.bool (decide (a = b))], ?_, rfl⟩
    have hd : decide (((diffU a.data.toList b.data.toList a.size).toNat : Int) = ((0 : UInt8).toNat : Int)) = decide (a = b) := by
      rw [show (((0 : UInt8).toNat : Nat) : Int) = 0 from rfl, vb_eq0]
      exact decide_eq_decide.2 (diff_eq a b hs')
    simp (disch := omega) only [resC, Tryd.results30, get_of, upd_same, hd]
    all_goals rfl
  have hlt' : i < a.size := by omega
  refine W.cond (b := true) ?_ ?_
  · simp (disch := omega) only [ev_tmp, get_of, upd_same, hlt, decide_true]
  simp only [cond_true]
  apply W.skip
  simp only [onN]
  apply W.seq
  apply W.block
  apply W.seq
  apply W.region
  · simp (disch := first | omega | (simp (disch := omega) [ev_tmp, ev_const, get_of, upd_same, upd_ne, h0, h1, h5, h13, h14, Tryd.underlying83, Tryd.underlying3, Tryd.underlying29, Tryd.underlying5]; done) | (apply inK_i64; omega) | (apply inK_u64; omega)) only [runC_cons, runC_nil, stepC_free, dstC_dst, dstC_none, thenC_some, cop_assign, cop_move, cop_conv, cop_bin, cop_un, ev_tmp, ev_const, put_of, get_of, upd_same, upd_ne, opConvert, ti3, ti83, ti29, ti5, ti9, opBuiltin, opLen, cop_builtin, List.toList_toArray, h14]
    with_reducible rfl
  simp only [onN]
  apply W.quiet
  · simp (disch := first | omega | (simp (disch := omega) [ev_tmp, ev_const, get_of, upd_same, upd_ne, h0, h1, h5, h13, h14, Tryd.underlying83, Tryd.underlying3, Tryd.underlying29, Tryd.underlying5]; done) | (apply inK_i64; omega) | (apply inK_u64; omega)) only [quietC_cons, quietC_nil, inner_st, thenQ_same, stepC_free, dstC_dst, dstC_none, thenC_some, cop_assign, cop_move, cop_conv, cop_bin, cop_un, ev_tmp, ev_const, put_of, get_of, upd_same, upd_ne, opConvert, ti3, ti83, ti29, ti5, ti9, cop_index, opIndex, h0, h1, h5, h14, natOf_cast, str_at a i hlt', str_at b i (hs' ▸ hlt'), vb_def, bb_xor, bb_or]
    with_reducible rfl
  simp only [onN, onB]
  apply W.region
  · simp (disch := first | omega | (simp (disch := omega) [ev_tmp, ev_const, get_of, upd_same, upd_ne, h0, h1, h5, h13, h14, Tryd.underlying83, Tryd.underlying3, Tryd.underlying29, Tryd.underlying5]; done) | (apply inK_i64; omega) | (apply inK_u64; omega)) only [runC_cons, runC_nil, stepC_free, dstC_dst, dstC_none, thenC_some, cop_assign, cop_move, cop_conv, cop_bin, cop_un, ev_tmp, ev_const, put_of, get_of, upd_same, upd_ne, opConvert, ti3, ti83, ti29, ti5, ti9, opBuiltin, opLen, cop_builtin, List.toList_toArray, h14, oi_add]
    with_reducible rfl
  simp only [onN]
  refine ⟨a.size - (i + 1), by omega, i + 1, _, by omega, rfl, by first | rfl | trivial, ?_, ?_, ?_, ?_, ?_, by first | rfl | trivial⟩
  · simp (disch := omega) only [upd_same, upd_ne, h0]
  · simp (disch := omega) only [upd_same, upd_ne, h1]
  · simp (disch := omega) only [upd_same, upd_ne, h13]
  · simp (disch := omega) only [upd_same, upd_ne]; rfl
  · simp (disch := omega) only [upd_same, upd_ne]; rfl
end Go.Proofs.YtcmfoipnoejmlaaDoor
