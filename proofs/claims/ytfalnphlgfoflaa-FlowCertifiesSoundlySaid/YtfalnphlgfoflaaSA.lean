/- Functions as plain functions, and that the code computes them. -/
import Derived.Test.YtfalnphlgfoflaaFd
namespace Go.Proofs.Ytfalnphlgfoflaa
open Go Go.RowKit
set_option linter.unusedSimpArgs false
set_option linter.unusedVariables false
set_option linter.unusedSectionVars false
set_option maxRecDepth 100000
def sslices_Index_L0 (k : Nat) (s_ : List Int) (v_ : Int) : Nat → Int → Option (Int ⊕ Unit)
  | 0, _ => none
  | m + 1, i => (if i < (s_.length : Int) then (if (0 : Int) ≤ i ∧ i < (s_.length : Int) then (if v_ = (gx s_ i) then some (.inl i) else sslices_Index_L0 k s_ v_ m (IntKind.i64.wrap (i + 1))) else none) else some (.inr ()))
def sslices_Index (k : Nat) (s_ : List Int) (v_ : Int) : Option Int := ((sslices_Index_L0 k s_ v_ k 0 : Option (Int ⊕ Unit)).bind fun o => Sum.elim (fun r => some r) (fun s_2 => some (-1)) o)
set_option maxHeartbeats 8000000 in
theorem sslices_Index_ok (ax : Axs) (hx : Plain ax) (k : Nat) (s_ : List Int) (v_ : Int) (v : Int) (H : sslices_Index k s_ v_ = some v) : Pure Try.prog (EE ax) [] 64 [ints s_, .int .i64 v_] (.int .i64 v) := by
  rw [sslices_Index] at H
  refine Pure.enter (fn := Try.f64) 19 (hx.no _ (by decide)) (fn64 ax) rfl Try.ntmps64 (by decide) (by simp) (by simp only [ids2B, ids2C, idsA, idsB, Bool.and_self]) (by first | rfl | simp only [ids2B, ids2C, idsA, idsB, Bool.and_self] | simp only [tupT, ids2B, ids2C, idsA, idsB, Bool.and_self]) ?_
  simp only [argT_cons, argT_nil, Nat.reduceAdd]
  refine TW.gen (bs := []) (fun h => h 0 = ints s_ ∧ h 1 = .int .i64 v_) rfl ?_ ?_
  · exact ⟨rfl, rfl⟩
  rintro h ⟨h0, h1⟩
  repeat apply TW.seq
  apply TW.region (envs_ok ax) [] []
  · kernel_rfl
  · simp (disch := first | omega | decide | (simp only [lzA, Nat.reduceAdd, Nat.reduceLT]; done) | fail) only [b0, b1, b2, b3, b4, b5, b6, b7, b8, Nat.reduceAdd, Nat.reduceEqDiff, Nat.reduceMul, reduceIte, reduceCtorEq, encA]
    with_reducible rfl
  · exact trivial
  simp only [onT, onTB]
  refine TW.gen (bs := []) (fun h => h 0 = ints s_ ∧ h 1 = .int .i64 v_) ?_ ?_ ?_
  · rfl
  · exact ⟨h0, h1⟩
  clear h0 h1 h
  rintro h ⟨h0, h1⟩
  repeat apply TW.seq
  apply TW.region (envs_ok ax) [] []
  · kernel_rfl
  · simp (disch := first | omega | decide | (simp only [lzA, Nat.reduceAdd, Nat.reduceLT]; done) | fail) only [b0, b1, b2, b3, b4, b5, b6, b7, b8, Nat.reduceAdd, Nat.reduceEqDiff, Nat.reduceMul, reduceIte, reduceCtorEq, h0, ti27 ax, encA]
    with_reducible rfl
  · exact trivial
  simp only [onT, onTB]
  refine TW.gen (bs := []) (fun h => h 0 = ints s_ ∧ h 1 = .int .i64 v_ ∧ h 7 = .int .i64 (s_.length : Int) ∧ h 8 = .int .i64 0) ?_ ?_ ?_
  · rfl
  · exact ⟨h0, h1, rfl, rfl⟩
  clear h0 h1 h
  rintro h ⟨h0, h1, h7, h8⟩
  obtain ⟨o, H1, H⟩ := bsome H
  repeat apply TW.seq
  refine TW.cutN [] 0 (by simp only [lzA] <;> omega) (fun h bs => ∃ s_2 : Unit, o = .inr s_2 ∧ bs = []) ?_ ?_
  · skip
    repeat apply TW.seq
    apply TW.block
    repeat apply TW.seq
    refine TW.loopT [0, 1, 7, 8] (fun m h bs => ∃ (i : Int), sslices_Index_L0 k s_ v_ m i = some o ∧ h 0 = ints s_ ∧ h 1 = .int .i64 v_ ∧ h 7 = .int .i64 (s_.length : Int) ∧ h 8 = .int .i64 i ∧ bs = []) ?_ k _ _ ?_
    rotate_left
    · exact ⟨0, H1, (by first | exact h0 | (rw [h0]; rfl)), (by first | exact h1 | (rw [h1]; rfl)), (by first | exact h7 | (rw [h7]; rfl)), (by first | exact h8 | (rw [h8]; rfl)), rfl⟩
    clear h0 h1 h7 h8 h
    clear H1
    rintro m h bs ⟨i, H1, h0, h1, h7, h8, rfl⟩
    rcases m with _ | m
    · rw [sslices_Index_L0] at H1; cases H1
    rw [sslices_Index_L0] at H1
    repeat apply TW.seq
    apply TW.region (envs_ok ax) [] []
    · kernel_rfl
    · simp (disch := first | omega | decide | (simp only [lzA, Nat.reduceAdd, Nat.reduceLT]; done) | fail) only [b0, b1, b2, b3, b4, b5, b6, b7, b8, Nat.reduceAdd, Nat.reduceEqDiff, Nat.reduceMul, reduceIte, reduceCtorEq, h8, h7, encA]
      with_reducible rfl
    · exact trivial
    simp only [onT, onTB]
    refine TW.gen (bs := []) (fun h => h 0 = ints s_ ∧ h 1 = .int .i64 v_ ∧ h 7 = .int .i64 (s_.length : Int) ∧ h 8 = .int .i64 i ∧ h 9 = .bool (decide (i < (s_.length : Int)))) ?_ ?_ ?_
    · rfl
    · exact ⟨h0, h1, h7, h8, rfl⟩
    clear h0 h1 h7 h8 h
    rintro h ⟨h0, h1, h7, h8, h9⟩
    by_cases c1 : i < (s_.length : Int)
    case neg =>
      rw [if_neg c1] at H1
      repeat apply TW.seq
      refine TW.cond (b := false) ?_ ?_
      · simp only [eT_tmp, eT_const, kT_bool, h9, decide_eq_false c1, Bool.not_true, Bool.not_false]
      simp only [cond_true, cond_false]
      apply TW.exit
      simp (disch := decide) only [onT, onTB, Nat.beq_refl, beq_no, cond_true, cond_false]
      cases H1
      refine ⟨_, rfl, by simp only [lzA] <;> omega, ?_, ?_, ?_⟩
      · simp only [ids2A, ids2B, ids2C, reduceIte, Nat.reduceEqDiff, Nat.reduceAdd, Nat.reduceLT, Nat.reduceLeDiff, idsA, idsB, h0, h1, h7, h8, h9]
      · simp only [ids2A, ids2B, ids2C, reduceIte, Nat.reduceEqDiff, Nat.reduceAdd, Nat.reduceLT, Nat.reduceLeDiff, idsA, idsB, h0, h1, h7, h8, h9]
      · exact ⟨_, rfl, (by first | rfl | trivial)⟩
    rw [if_pos c1] at H1
    repeat apply TW.seq
    refine TW.cond (b := true) ?_ ?_
    · simp only [eT_tmp, eT_const, kT_bool, h9, decide_eq_true c1, Bool.not_true, Bool.not_false]
    simp only [cond_true, cond_false]
    repeat apply TW.seq
    apply TW.skip
    simp only [onT, onTB]
    repeat apply TW.seq
    apply TW.block
    repeat apply TW.seq
    apply TW.region (envs_ok ax) [] []
    · kernel_rfl
    · simp (disch := first | omega | decide | (simp only [lzA, Nat.reduceAdd, Nat.reduceLT]; done) | fail) only [b0, b1, b2, b3, b4, b5, b6, b7, b8, Nat.reduceAdd, Nat.reduceEqDiff, Nat.reduceMul, reduceIte, reduceCtorEq, h8, decide_eq_true c1, encA]
      with_reducible rfl
    · exact trivial
    simp only [onT, onTB]
    refine TW.gen (bs := []) (fun h => h 0 = ints s_ ∧ h 1 = .int .i64 v_ ∧ h 5 = .int .i64 i ∧ h 7 = .int .i64 (s_.length : Int) ∧ h 8 = .int .i64 i) ?_ ?_ ?_
    · rfl
    · exact ⟨h0, h1, rfl, h7, h8⟩
    clear h0 h1 h7 h8 h9 h
    rintro h ⟨h0, h1, h5, h7, h8⟩
    by_cases g2 : (0 : Int) ≤ i ∧ i < (s_.length : Int)
    case neg => rw [if_neg g2] at H1; cases H1
    rw [if_pos g2] at H1
    repeat apply TW.seq
    apply TW.region (envs_ok ax) [] []
    · kernel_rfl
    · simp (disch := first | omega | decide | (simp only [lzA, Nat.reduceAdd, Nat.reduceLT]; done) | fail) only [b0, b1, b2, b3, b4, b5, b6, b7, b8, Nat.reduceAdd, Nat.reduceEqDiff, Nat.reduceMul, reduceIte, reduceCtorEq, h1, h0, h5, decide_eq_true c1, gx_some g2, ti27 ax, ti3 ax, encA]
      with_reducible rfl
    · exact trivial
    simp only [onT, onTB]
    refine TW.gen (bs := []) (fun h => h 0 = ints s_ ∧ h 1 = .int .i64 v_ ∧ h 5 = .int .i64 i ∧ h 7 = .int .i64 (s_.length : Int) ∧ h 8 = .int .i64 i ∧ h 16 = .bool (decide (v_ = (gx s_ i)))) ?_ ?_ ?_
    · rfl
    · exact ⟨h0, h1, h5, h7, h8, rfl⟩
    clear h0 h1 h5 h7 h8 h
    rintro h ⟨h0, h1, h5, h7, h8, h16⟩
    by_cases c3 : v_ = (gx s_ i)
    case neg =>
      rw [if_neg c3] at H1
      repeat apply TW.seq
      refine TW.cond (b := false) ?_ ?_
      · simp only [eT_tmp, eT_const, kT_bool, h16, decide_eq_true c1, decide_eq_false c3, Bool.not_true, Bool.not_false]
      simp only [cond_true, cond_false]
      repeat apply TW.seq
      apply TW.skip
      simp only [onT, onTB]
      repeat apply TW.seq
      apply TW.region (envs_ok ax) [] []
      · kernel_rfl
      · simp (disch := first | omega | decide | (simp only [lzA, Nat.reduceAdd, Nat.reduceLT]; done) | fail) only [b0, b1, b2, b3, b4, b5, b6, b7, b8, Nat.reduceAdd, Nat.reduceEqDiff, Nat.reduceMul, reduceIte, reduceCtorEq, h8, decide_eq_true c1, decide_eq_false c3, encA]
        with_reducible rfl
      · exact trivial
      simp only [onT, onTB]

      refine ⟨m, by omega, _, rfl, by simp only [lzA] <;> omega, ?_, ?_, ?_⟩
      · simp only [ids2A, ids2B, ids2C, reduceIte, Nat.reduceEqDiff, Nat.reduceAdd, Nat.reduceLT, Nat.reduceLeDiff, idsA, idsB, h0, h1, h5, h7, h8, h16]
      · simp only [ids2A, ids2B, ids2C, reduceIte, Nat.reduceEqDiff, Nat.reduceAdd, Nat.reduceLT, Nat.reduceLeDiff, idsA, idsB, h0, h1, h5, h7, h8, h16]
      · exact ⟨(IntKind.i64.wrap (i + 1)), H1, (keepT_at (by decide)).trans h0, (keepT_at (by decide)).trans h1, (keepT_at (by decide)).trans h7, (keepT_at (by decide)).trans rfl, (by first | rfl | trivial)⟩
    rw [if_pos c3] at H1
    repeat apply TW.seq
    refine TW.cond (b := true) ?_ ?_
    · simp only [eT_tmp, eT_const, kT_bool, h16, decide_eq_true c1, decide_eq_true c3, Bool.not_true, Bool.not_false]
    simp only [cond_true, cond_false]
    repeat apply TW.seq
    apply TW.region (envs_ok ax) [] []
    · kernel_rfl
    · simp (disch := first | omega | decide | (simp only [lzA, Nat.reduceAdd, Nat.reduceLT]; done) | fail) only [b0, b1, b2, b3, b4, b5, b6, b7, b8, Nat.reduceAdd, Nat.reduceEqDiff, Nat.reduceMul, reduceIte, reduceCtorEq, h5, decide_eq_true c1, decide_eq_true c3, encA]
      with_reducible rfl
    · exact trivial
    simp only [onT, onTB]
    refine TW.gen (bs := []) (fun h => h 4 = .int .i64 i) ?_ ?_ ?_
    · rfl
    · exact rfl
    clear h0 h1 h5 h7 h8 h16 h
    rintro h h4
    apply TW.ret
    cases H1
    rw [Sum.elim_inl] at H
    cases H
    refine ⟨.inr rfl, ?_⟩
    first | (simp only [Try.results64, resT, h4]; done) | (simp only [Try.results64, resT, h4]; rfl)
  clear h0 h1 h7 h8 h
  rintro h bs ⟨s_2, rfl, rfl⟩
  rw [Sum.elim_inr] at H
  simp only [onT, onTB]
  repeat apply TW.seq
  apply TW.region (envs_ok ax) [] []
  · kernel_rfl
  · simp (disch := first | omega | decide | (simp only [lzA, Nat.reduceAdd, Nat.reduceLT]; done) | fail) only [b0, b1, b2, b3, b4, b5, b6, b7, b8, Nat.reduceAdd, Nat.reduceEqDiff, Nat.reduceMul, reduceIte, reduceCtorEq, encA]
    with_reducible rfl
  · exact trivial
  simp only [onT, onTB]
  refine TW.gen (bs := []) (fun h => h 4 = .int .i64 (-1)) ?_ ?_ ?_
  · rfl
  · exact rfl
  clear  h
  rintro h h4
  apply TW.ret
  cases H
  refine ⟨.inr rfl, ?_⟩
  first | (simp only [Try.results64, resT, h4]; done) | (simp only [Try.results64, resT, h4]; rfl)
def sslices_Contains (k : Nat) (s_ : List Int) (v_ : Int) : Option Bool := ((sslices_Index k s_ v_).bind fun rIndex => some (decide (0 ≤ rIndex)))
set_option maxHeartbeats 8000000 in
theorem sslices_Contains_ok (ax : Axs) (hx : Plain ax) (k : Nat) (s_ : List Int) (v_ : Int) (v : Bool) (H : sslices_Contains k s_ v_ = some v) : Pure Try.prog (EE ax) [] 40 [ints s_, .int .i64 v_] (.bool v) := by
  rw [sslices_Contains] at H
  refine Pure.enter (fn := Try.f40) 9 (hx.no _ (by decide)) (fn40 ax) rfl Try.ntmps40 (by decide) (by simp) (by simp only [ids2B, ids2C, idsA, idsB, Bool.and_self]) (by first | rfl | simp only [ids2B, ids2C, idsA, idsB, Bool.and_self] | simp only [tupT, ids2B, ids2C, idsA, idsB, Bool.and_self]) ?_
  simp only [argT_cons, argT_nil, Nat.reduceAdd]
  refine TW.gen (bs := []) (fun h => h 0 = ints s_ ∧ h 1 = .int .i64 v_) rfl ?_ ?_
  · exact ⟨rfl, rfl⟩
  rintro h ⟨h0, h1⟩
  repeat apply TW.seq
  apply TW.region (envs_ok ax) [] []
  · kernel_rfl
  · simp (disch := first | omega | decide | (simp only [lzA, Nat.reduceAdd, Nat.reduceLT]; done) | fail) only [b0, b1, b2, b3, b4, b5, b6, b7, b8, Nat.reduceAdd, Nat.reduceEqDiff, Nat.reduceMul, reduceIte, reduceCtorEq, encA]
    with_reducible rfl
  · exact trivial
  simp only [onT, onTB]
  refine TW.gen (bs := []) (fun h => h 0 = ints s_ ∧ h 1 = .int .i64 v_) ?_ ?_ ?_
  · rfl
  · exact ⟨h0, h1⟩
  clear h0 h1 h
  rintro h ⟨h0, h1⟩
  obtain ⟨rIndex, e1, H⟩ := bsome H
  repeat apply TW.seq
  apply TW.region (envs_ok ax) [] [(.int .i64 rIndex, stL [])]
  · kernel_rfl
  · simp (disch := first | omega | decide | (simp only [lzA, Nat.reduceAdd, Nat.reduceLT]; done) | fail) only [b0, b1, b2, b3, b4, b5, b6, b7, b8, Nat.reduceAdd, Nat.reduceEqDiff, Nat.reduceMul, reduceIte, reduceCtorEq, h0, h1, encA]
    with_reducible rfl
  · exact ⟨(by have q := Call0.call ((sslices_Index_ok ax hx k s_ v_ rIndex e1 ).call (stL [])); exact q), trivial⟩
  simp only [onT, onTB]
  refine TW.gen (bs := []) (fun h => h 4 = .bool (decide (0 ≤ rIndex))) ?_ ?_ ?_
  · rfl
  · exact rfl
  clear h0 h1 h
  rintro h h4
  apply TW.ret
  cases H
  refine ⟨.inr rfl, ?_⟩
  first | (simp only [Try.results40, resT, h4]; done) | (simp only [Try.results40, resT, h4]; rfl)
def sslices_IndexFunc_L0 (k : Nat) (s_ : List Int) (f_ : Int → Option Bool) : Nat → Int → Option (Int ⊕ Unit)
  | 0, _ => none
  | m + 1, i => (if i < (s_.length : Int) then (if (0 : Int) ≤ i ∧ i < (s_.length : Int) then ((f_ (gx s_ i)).bind fun r => (if r = true then some (.inl i) else sslices_IndexFunc_L0 k s_ f_ m (IntKind.i64.wrap (i + 1)))) else none) else some (.inr ()))
def sslices_IndexFunc (k : Nat) (s_ : List Int) (f_ : Int → Option Bool) : Option Int := ((sslices_IndexFunc_L0 k s_ f_ k 0 : Option (Int ⊕ Unit)).bind fun o => Sum.elim (fun r => some r) (fun s_2 => some (-1)) o)
set_option maxHeartbeats 8000000 in
theorem sslices_IndexFunc_ok (ax : Axs) (hx : Plain ax) (k : Nat) (s_ : List Int) (f_ : Int → Option Bool) (v : Int) (H : sslices_IndexFunc k s_ f_ = some v) (f__f : Nat) (f__c : List T) (f__i : T.idsL 0 f__c = true) (f__h : ∀ (y0 : Int) (w : Bool), f_ y0 = some w → Pure Try.prog (EE ax) [] f__f ([] ++ [.int .i64 y0] ++ f__c) (.bool w)) : Pure Try.prog (EE ax) [] 54 [ints s_, .fn f__f [] f__c] (.int .i64 v) := by
  rw [sslices_IndexFunc] at H
  refine Pure.enter (fn := Try.f54) 19 (hx.no _ (by decide)) (fn54 ax) rfl Try.ntmps54 (by decide) (by simp) (by simp only [ids2B, ids2C, idsA, idsB, Bool.and_self, f__i]) (by first | rfl | simp only [ids2B, ids2C, idsA, idsB, Bool.and_self, f__i] | simp only [tupT, ids2B, ids2C, idsA, idsB, Bool.and_self, f__i]) ?_
  simp only [argT_cons, argT_nil, Nat.reduceAdd]
  refine TW.gen (bs := []) (fun h => h 0 = ints s_ ∧ h 1 = .fn f__f [] f__c) rfl ?_ ?_
  · exact ⟨rfl, rfl⟩
  rintro h ⟨h0, h1⟩
  repeat apply TW.seq
  apply TW.region (envs_ok ax) [] []
  · kernel_rfl
  · simp (disch := first | omega | decide | (simp only [lzA, Nat.reduceAdd, Nat.reduceLT]; done) | fail) only [b0, b1, b2, b3, b4, b5, b6, b7, b8, Nat.reduceAdd, Nat.reduceEqDiff, Nat.reduceMul, reduceIte, reduceCtorEq, encA]
    with_reducible rfl
  · exact trivial
  simp only [onT, onTB]
  refine TW.gen (bs := []) (fun h => h 0 = ints s_ ∧ h 1 = .fn f__f [] f__c) ?_ ?_ ?_
  · rfl
  · exact ⟨h0, h1⟩
  clear h0 h1 h
  rintro h ⟨h0, h1⟩
  repeat apply TW.seq
  apply TW.region (envs_ok ax) [] []
  · kernel_rfl
  · simp (disch := first | omega | decide | (simp only [lzA, Nat.reduceAdd, Nat.reduceLT]; done) | fail) only [b0, b1, b2, b3, b4, b5, b6, b7, b8, Nat.reduceAdd, Nat.reduceEqDiff, Nat.reduceMul, reduceIte, reduceCtorEq, h0, ti27 ax, encA]
    with_reducible rfl
  · exact trivial
  simp only [onT, onTB]
  refine TW.gen (bs := []) (fun h => h 0 = ints s_ ∧ h 1 = .fn f__f [] f__c ∧ h 7 = .int .i64 (s_.length : Int) ∧ h 8 = .int .i64 0) ?_ ?_ ?_
  · rfl
  · exact ⟨h0, h1, rfl, rfl⟩
  clear h0 h1 h
  rintro h ⟨h0, h1, h7, h8⟩
  obtain ⟨o, H1, H⟩ := bsome H
  repeat apply TW.seq
  refine TW.cutN [] 0 (by simp only [lzA] <;> omega) (fun h bs => ∃ s_2 : Unit, o = .inr s_2 ∧ bs = []) ?_ ?_
  · skip
    repeat apply TW.seq
    apply TW.block
    repeat apply TW.seq
    refine TW.loopT [0, 1, 7, 8] (fun m h bs => ∃ (i : Int), sslices_IndexFunc_L0 k s_ f_ m i = some o ∧ h 0 = ints s_ ∧ h 1 = .fn f__f [] f__c ∧ h 7 = .int .i64 (s_.length : Int) ∧ h 8 = .int .i64 i ∧ bs = []) ?_ k _ _ ?_
    rotate_left
    · exact ⟨0, H1, (by first | exact h0 | (rw [h0]; rfl)), (by first | exact h1 | (rw [h1]; rfl)), (by first | exact h7 | (rw [h7]; rfl)), (by first | exact h8 | (rw [h8]; rfl)), rfl⟩
    clear h0 h1 h7 h8 h
    clear H1
    rintro m h bs ⟨i, H1, h0, h1, h7, h8, rfl⟩
    rcases m with _ | m
    · rw [sslices_IndexFunc_L0] at H1; cases H1
    rw [sslices_IndexFunc_L0] at H1
    repeat apply TW.seq
    apply TW.region (envs_ok ax) [] []
    · kernel_rfl
    · simp (disch := first | omega | decide | (simp only [lzA, Nat.reduceAdd, Nat.reduceLT]; done) | fail) only [b0, b1, b2, b3, b4, b5, b6, b7, b8, Nat.reduceAdd, Nat.reduceEqDiff, Nat.reduceMul, reduceIte, reduceCtorEq, h8, h7, encA]
      with_reducible rfl
    · exact trivial
    simp only [onT, onTB]
    refine TW.gen (bs := []) (fun h => h 0 = ints s_ ∧ h 1 = .fn f__f [] f__c ∧ h 7 = .int .i64 (s_.length : Int) ∧ h 8 = .int .i64 i ∧ h 9 = .bool (decide (i < (s_.length : Int)))) ?_ ?_ ?_
    · rfl
    · exact ⟨h0, h1, h7, h8, rfl⟩
    clear h0 h1 h7 h8 h
    rintro h ⟨h0, h1, h7, h8, h9⟩
    by_cases c1 : i < (s_.length : Int)
    case neg =>
      rw [if_neg c1] at H1
      repeat apply TW.seq
      refine TW.cond (b := false) ?_ ?_
      · simp only [eT_tmp, eT_const, kT_bool, h9, decide_eq_false c1, Bool.not_true, Bool.not_false]
      simp only [cond_true, cond_false]
      apply TW.exit
      simp (disch := decide) only [onT, onTB, Nat.beq_refl, beq_no, cond_true, cond_false]
      cases H1
      refine ⟨_, rfl, by simp only [lzA] <;> omega, ?_, ?_, ?_⟩
      · simp only [ids2A, ids2B, ids2C, reduceIte, Nat.reduceEqDiff, Nat.reduceAdd, Nat.reduceLT, Nat.reduceLeDiff, idsA, idsB, f__i, h0, h1, h7, h8, h9]
      · simp only [ids2A, ids2B, ids2C, reduceIte, Nat.reduceEqDiff, Nat.reduceAdd, Nat.reduceLT, Nat.reduceLeDiff, idsA, idsB, f__i, h0, h1, h7, h8, h9]
      · exact ⟨_, rfl, (by first | rfl | trivial)⟩
    rw [if_pos c1] at H1
    repeat apply TW.seq
    refine TW.cond (b := true) ?_ ?_
    · simp only [eT_tmp, eT_const, kT_bool, h9, decide_eq_true c1, Bool.not_true, Bool.not_false]
    simp only [cond_true, cond_false]
    repeat apply TW.seq
    apply TW.skip
    simp only [onT, onTB]
    repeat apply TW.seq
    apply TW.block
    repeat apply TW.seq
    apply TW.region (envs_ok ax) [] []
    · kernel_rfl
    · simp (disch := first | omega | decide | (simp only [lzA, Nat.reduceAdd, Nat.reduceLT]; done) | fail) only [b0, b1, b2, b3, b4, b5, b6, b7, b8, Nat.reduceAdd, Nat.reduceEqDiff, Nat.reduceMul, reduceIte, reduceCtorEq, h8, decide_eq_true c1, encA]
      with_reducible rfl
    · exact trivial
    simp only [onT, onTB]
    refine TW.gen (bs := []) (fun h => h 0 = ints s_ ∧ h 1 = .fn f__f [] f__c ∧ h 5 = .int .i64 i ∧ h 7 = .int .i64 (s_.length : Int) ∧ h 8 = .int .i64 i) ?_ ?_ ?_
    · rfl
    · exact ⟨h0, h1, rfl, h7, h8⟩
    clear h0 h1 h7 h8 h9 h
    rintro h ⟨h0, h1, h5, h7, h8⟩
    by_cases g2 : (0 : Int) ≤ i ∧ i < (s_.length : Int)
    case neg => rw [if_neg g2] at H1; cases H1
    rw [if_pos g2] at H1
    obtain ⟨r, e3, H1⟩ := bsome H1
    repeat apply TW.seq
    apply TW.region (envs_ok ax) [] [(.bool r, stL [])]
    · kernel_rfl
    · simp (disch := first | omega | decide | (simp only [lzA, Nat.reduceAdd, Nat.reduceLT]; done) | fail) only [b0, b1, b2, b3, b4, b5, b6, b7, b8, Nat.reduceAdd, Nat.reduceEqDiff, Nat.reduceMul, reduceIte, reduceCtorEq, h1, h0, h5, decide_eq_true c1, gx_some g2, ti27 ax, ti3 ax, encA]
      with_reducible rfl
    · exact ⟨(by have q := Call0.call ((f__h (gx s_ i) r e3).call (stL [])); exact q), trivial⟩
    simp only [onT, onTB]
    refine TW.gen (bs := []) (fun h => h 0 = ints s_ ∧ h 1 = .fn f__f [] f__c ∧ h 5 = .int .i64 i ∧ h 7 = .int .i64 (s_.length : Int) ∧ h 8 = .int .i64 i ∧ h 16 = .bool r) ?_ ?_ ?_
    · rfl
    · exact ⟨h0, h1, h5, h7, h8, rfl⟩
    clear h0 h1 h5 h7 h8 h
    rintro h ⟨h0, h1, h5, h7, h8, h16⟩
    by_cases c4 : r = true
    case neg =>
      rw [if_neg c4] at H1
      have c4f := (Bool.not_eq_true _).mp c4
      repeat apply TW.seq
      refine TW.cond (b := false) ?_ ?_
      · simp only [eT_tmp, eT_const, kT_bool, h16, decide_eq_true c1, c4f, Bool.not_true, Bool.not_false]
      simp only [cond_true, cond_false]
      repeat apply TW.seq
      apply TW.skip
      simp only [onT, onTB]
      repeat apply TW.seq
      apply TW.region (envs_ok ax) [] []
      · kernel_rfl
      · simp (disch := first | omega | decide | (simp only [lzA, Nat.reduceAdd, Nat.reduceLT]; done) | fail) only [b0, b1, b2, b3, b4, b5, b6, b7, b8, Nat.reduceAdd, Nat.reduceEqDiff, Nat.reduceMul, reduceIte, reduceCtorEq, h8, decide_eq_true c1, c4f, encA]
        with_reducible rfl
      · exact trivial
      simp only [onT, onTB]

      refine ⟨m, by omega, _, rfl, by simp only [lzA] <;> omega, ?_, ?_, ?_⟩
      · simp only [ids2A, ids2B, ids2C, reduceIte, Nat.reduceEqDiff, Nat.reduceAdd, Nat.reduceLT, Nat.reduceLeDiff, idsA, idsB, f__i, h0, h1, h5, h7, h8, h16]
      · simp only [ids2A, ids2B, ids2C, reduceIte, Nat.reduceEqDiff, Nat.reduceAdd, Nat.reduceLT, Nat.reduceLeDiff, idsA, idsB, f__i, h0, h1, h5, h7, h8, h16]
      · exact ⟨(IntKind.i64.wrap (i + 1)), H1, (keepT_at (by decide)).trans h0, (keepT_at (by decide)).trans h1, (keepT_at (by decide)).trans h7, (keepT_at (by decide)).trans rfl, (by first | rfl | trivial)⟩
    rw [if_pos c4] at H1
    repeat apply TW.seq
    refine TW.cond (b := true) ?_ ?_
    · simp only [eT_tmp, eT_const, kT_bool, h16, decide_eq_true c1, c4, Bool.not_true, Bool.not_false]
    simp only [cond_true, cond_false]
    repeat apply TW.seq
    apply TW.region (envs_ok ax) [] []
    · kernel_rfl
    · simp (disch := first | omega | decide | (simp only [lzA, Nat.reduceAdd, Nat.reduceLT]; done) | fail) only [b0, b1, b2, b3, b4, b5, b6, b7, b8, Nat.reduceAdd, Nat.reduceEqDiff, Nat.reduceMul, reduceIte, reduceCtorEq, h5, decide_eq_true c1, c4, encA]
      with_reducible rfl
    · exact trivial
    simp only [onT, onTB]
    refine TW.gen (bs := []) (fun h => h 4 = .int .i64 i) ?_ ?_ ?_
    · rfl
    · exact rfl
    clear h0 h1 h5 h7 h8 h16 h
    rintro h h4
    apply TW.ret
    cases H1
    rw [Sum.elim_inl] at H
    cases H
    refine ⟨.inr rfl, ?_⟩
    first | (simp only [Try.results54, resT, h4]; done) | (simp only [Try.results54, resT, h4]; rfl)
  clear h0 h1 h7 h8 h
  rintro h bs ⟨s_2, rfl, rfl⟩
  rw [Sum.elim_inr] at H
  simp only [onT, onTB]
  repeat apply TW.seq
  apply TW.region (envs_ok ax) [] []
  · kernel_rfl
  · simp (disch := first | omega | decide | (simp only [lzA, Nat.reduceAdd, Nat.reduceLT]; done) | fail) only [b0, b1, b2, b3, b4, b5, b6, b7, b8, Nat.reduceAdd, Nat.reduceEqDiff, Nat.reduceMul, reduceIte, reduceCtorEq, encA]
    with_reducible rfl
  · exact trivial
  simp only [onT, onTB]
  refine TW.gen (bs := []) (fun h => h 4 = .int .i64 (-1)) ?_ ?_ ?_
  · rfl
  · exact rfl
  clear  h
  rintro h h4
  apply TW.ret
  cases H
  refine ⟨.inr rfl, ?_⟩
  first | (simp only [Try.results54, resT, h4]; done) | (simp only [Try.results54, resT, h4]; rfl)
def sslices_ContainsFunc (k : Nat) (s_ : List Int) (f_ : Int → Option Bool) : Option Bool := ((sslices_IndexFunc k s_ f_).bind fun rIndexFunc => some (decide (0 ≤ rIndexFunc)))
set_option maxHeartbeats 8000000 in
theorem sslices_ContainsFunc_ok (ax : Axs) (hx : Plain ax) (k : Nat) (s_ : List Int) (f_ : Int → Option Bool) (v : Bool) (H : sslices_ContainsFunc k s_ f_ = some v) (f__f : Nat) (f__c : List T) (f__i : T.idsL 0 f__c = true) (f__h : ∀ (y0 : Int) (w : Bool), f_ y0 = some w → Pure Try.prog (EE ax) [] f__f ([] ++ [.int .i64 y0] ++ f__c) (.bool w)) : Pure Try.prog (EE ax) [] 36 [ints s_, .fn f__f [] f__c] (.bool v) := by
  rw [sslices_ContainsFunc] at H
  refine Pure.enter (fn := Try.f36) 9 (hx.no _ (by decide)) (fn36 ax) rfl Try.ntmps36 (by decide) (by simp) (by simp only [ids2B, ids2C, idsA, idsB, Bool.and_self, f__i]) (by first | rfl | simp only [ids2B, ids2C, idsA, idsB, Bool.and_self, f__i] | simp only [tupT, ids2B, ids2C, idsA, idsB, Bool.and_self, f__i]) ?_
  simp only [argT_cons, argT_nil, Nat.reduceAdd]
  refine TW.gen (bs := []) (fun h => h 0 = ints s_ ∧ h 1 = .fn f__f [] f__c) rfl ?_ ?_
  · exact ⟨rfl, rfl⟩
  rintro h ⟨h0, h1⟩
  repeat apply TW.seq
  apply TW.region (envs_ok ax) [] []
  · kernel_rfl
  · simp (disch := first | omega | decide | (simp only [lzA, Nat.reduceAdd, Nat.reduceLT]; done) | fail) only [b0, b1, b2, b3, b4, b5, b6, b7, b8, Nat.reduceAdd, Nat.reduceEqDiff, Nat.reduceMul, reduceIte, reduceCtorEq, encA]
    with_reducible rfl
  · exact trivial
  simp only [onT, onTB]
  refine TW.gen (bs := []) (fun h => h 0 = ints s_ ∧ h 1 = .fn f__f [] f__c) ?_ ?_ ?_
  · rfl
  · exact ⟨h0, h1⟩
  clear h0 h1 h
  rintro h ⟨h0, h1⟩
  obtain ⟨rIndexFunc, e1, H⟩ := bsome H
  repeat apply TW.seq
  apply TW.region (envs_ok ax) [] [(.int .i64 rIndexFunc, stL [])]
  · kernel_rfl
  · simp (disch := first | omega | decide | (simp only [lzA, Nat.reduceAdd, Nat.reduceLT]; done) | fail) only [b0, b1, b2, b3, b4, b5, b6, b7, b8, Nat.reduceAdd, Nat.reduceEqDiff, Nat.reduceMul, reduceIte, reduceCtorEq, h0, h1, encA]
    with_reducible rfl
  · exact ⟨(by have q := Call0.call ((sslices_IndexFunc_ok ax hx k s_ f_ rIndexFunc e1 f__f f__c f__i f__h).call (stL [])); exact q), trivial⟩
  simp only [onT, onTB]
  refine TW.gen (bs := []) (fun h => h 4 = .bool (decide (0 ≤ rIndexFunc))) ?_ ?_ ?_
  · rfl
  · exact rfl
  clear h0 h1 h
  rintro h h4
  apply TW.ret
  cases H
  refine ⟨.inr rfl, ?_⟩
  first | (simp only [Try.results36, resT, h4]; done) | (simp only [Try.results36, resT, h4]; rfl)
def sgraph_Up (k : Nat) (n : Net) (f_ : Failure) (link : Int) : Option Bool := (if (0 : Int) ≤ link ∧ link < (n.links.length : Int) then (if ((gx n.links link).frm) ≠ f_.node then (if ((gx n.links link).to) ≠ f_.node then ((sslices_Contains k f_.links link).bind fun rContains => some (!rContains)) else some false) else some false) else none)
set_option maxHeartbeats 8000000 in
theorem sgraph_Up_ok (ax : Axs) (hx : Plain ax) (k : Nat) (n : Net) (f_ : Failure) (link : Int) (v : Bool) (H : sgraph_Up k n f_ link = some v) : Pure Try.prog (EE ax) [] 35 [eNet n, eFail f_, .int .i64 link] (.bool v) := by
  rw [sgraph_Up] at H
  refine Pure.enter (fn := Try.f35) 32 (hx.no _ (by decide)) (fn35 ax) rfl Try.ntmps35 (by decide) (by simp) (by simp only [ids2B, ids2C, idsA, idsB, Bool.and_self]) (by first | rfl | simp only [ids2B, ids2C, idsA, idsB, Bool.and_self] | simp only [tupT, ids2B, ids2C, idsA, idsB, Bool.and_self]) ?_
  simp only [argT_cons, argT_nil, Nat.reduceAdd]
  refine TW.gen (bs := []) (fun h => h 0 = eNet n ∧ h 1 = eFail f_ ∧ h 2 = .int .i64 link) rfl ?_ ?_
  · exact ⟨rfl, rfl, rfl⟩
  rintro h ⟨h0, h1, h2⟩
  repeat apply TW.seq
  apply TW.region (envs_ok ax) [] []
  · kernel_rfl
  · simp (disch := first | omega | decide | (simp only [lzA, Nat.reduceAdd, Nat.reduceLT]; done) | fail) only [b0, b1, b2, b3, b4, b5, b6, b7, b8, Nat.reduceAdd, Nat.reduceEqDiff, Nat.reduceMul, reduceIte, reduceCtorEq, h0, h1, encA]
    with_reducible rfl
  · exact trivial
  simp only [onT, onTB]
  refine TW.gen (bs := [.cells true 3 [lNodes n.nodes, lLinks n.links, lEdges n.edges], .cells true 2 [ints f_.links, .int .i64 f_.node]]) (fun h => h 2 = .int .i64 link ∧ h 3 = .ptr 0 0 3 ∧ h 4 = .ptr 1 0 2) ?_ ?_ ?_
  · rfl
  · exact ⟨h2, rfl, rfl⟩
  clear h0 h1 h2 h
  rintro h ⟨h2, h3, h4⟩
  by_cases g1 : (0 : Int) ≤ link ∧ link < (n.links.length : Int)
  case neg => rw [if_neg g1] at H; cases H
  rw [if_pos g1] at H
  repeat apply TW.seq
  apply TW.region (envs_ok ax) [] []
  · kernel_rfl
  · simp (disch := first | omega | decide | (simp only [lzA, Nat.reduceAdd, Nat.reduceLT]; done) | fail) only [b0, b1, b2, b3, b4, b5, b6, b7, b8, Nat.reduceAdd, Nat.reduceEqDiff, Nat.reduceMul, reduceIte, reduceCtorEq, h3, h2, gx_some g1, fa26_1, ti23 ax, ti51 ax, encA]
    with_reducible rfl
  · exact trivial
  simp only [onT, onTB]
  refine TW.gen (bs := [.cells true 3 [lNodes n.nodes, lLinks n.links, lEdges n.edges], .cells true 2 [ints f_.links, .int .i64 f_.node], .cells true 3 [.int .i64 ((gx n.links link).frm), .int .i64 ((gx n.links link).to), .int .i64 ((gx n.links link).cap)]]) (fun h => h 2 = .int .i64 link ∧ h 4 = .ptr 1 0 2 ∧ h 7 = .ptr 2 0 3) ?_ ?_ ?_
  · rfl
  · exact ⟨h2, h4, rfl⟩
  clear h2 h3 h4 h
  rintro h ⟨h2, h4, h7⟩
  by_cases c2 : ((gx n.links link).frm) ≠ f_.node
  case neg =>
    rw [if_neg c2] at H
    repeat apply TW.seq
    apply TW.region (envs_ok ax) [] []
    · kernel_rfl
    · simp (maxSteps := 900000) (disch := first | omega | decide | (simp only [lzA, Nat.reduceAdd, Nat.reduceLT]; done) | fail) only [b0, b1, b2, b3, b4, b5, b6, b7, b8, Nat.reduceAdd, Nat.reduceEqDiff, Nat.reduceMul, reduceIte, reduceCtorEq, h7, h4, h2, decide_eq_false c2, fa29_1, fa51_0, ti3 ax, encA]
      with_reducible rfl
    · exact trivial
    simp only [onT, onTB]
    refine TW.gen (bs := [.cells true 3 [lNodes n.nodes, lLinks n.links, lEdges n.edges], .cells true 2 [ints f_.links, .int .i64 f_.node], .cells true 3 [.int .i64 ((gx n.links link).frm), .int .i64 ((gx n.links link).to), .int .i64 ((gx n.links link).cap)]]) (fun h => h 6 = .bool false) ?_ ?_ ?_
    · rfl
    · exact rfl
    clear h2 h4 h7 h
    rintro h h6
    apply TW.ret
    cases H
    refine ⟨.inr rfl, ?_⟩
    first | (simp only [Try.results35, resT, h6]; done) | (simp only [Try.results35, resT, h6]; rfl)
  rw [if_pos c2] at H
  by_cases c3 : ((gx n.links link).to) ≠ f_.node
  case neg =>
    rw [if_neg c3] at H
    repeat apply TW.seq
    apply TW.region (envs_ok ax) [] []
    · kernel_rfl
    · simp (maxSteps := 900000) (disch := first | omega | decide | (simp only [lzA, Nat.reduceAdd, Nat.reduceLT]; done) | fail) only [b0, b1, b2, b3, b4, b5, b6, b7, b8, Nat.reduceAdd, Nat.reduceEqDiff, Nat.reduceMul, reduceIte, reduceCtorEq, h7, h4, h2, decide_eq_true c2, decide_eq_false c3, fa29_1, fa51_0, fa51_1, ti3 ax, encA]
      with_reducible rfl
    · exact trivial
    simp only [onT, onTB]
    refine TW.gen (bs := [.cells true 3 [lNodes n.nodes, lLinks n.links, lEdges n.edges], .cells true 2 [ints f_.links, .int .i64 f_.node], .cells true 3 [.int .i64 ((gx n.links link).frm), .int .i64 ((gx n.links link).to), .int .i64 ((gx n.links link).cap)]]) (fun h => h 6 = .bool false) ?_ ?_ ?_
    · rfl
    · exact rfl
    clear h2 h4 h7 h
    rintro h h6
    apply TW.ret
    cases H
    refine ⟨.inr rfl, ?_⟩
    first | (simp only [Try.results35, resT, h6]; done) | (simp only [Try.results35, resT, h6]; rfl)
  rw [if_pos c3] at H
  obtain ⟨rContains, e4, H⟩ := bsome H
  repeat apply TW.seq
  apply TW.region (envs_ok ax) [] [(.bool rContains, stL [.cells true 3 [lNodes n.nodes, lLinks n.links, lEdges n.edges], .cells true 2 [ints f_.links, .int .i64 f_.node], .cells true 3 [.int .i64 ((gx n.links link).frm), .int .i64 ((gx n.links link).to), .int .i64 ((gx n.links link).cap)]])]
  · kernel_rfl
  · simp (maxSteps := 900000) (disch := first | omega | decide | (simp only [lzA, Nat.reduceAdd, Nat.reduceLT]; done) | fail) only [b0, b1, b2, b3, b4, b5, b6, b7, b8, Nat.reduceAdd, Nat.reduceEqDiff, Nat.reduceMul, reduceIte, reduceCtorEq, h7, h4, h2, decide_eq_true c2, decide_eq_true c3, fa29_0, fa29_1, fa51_0, fa51_1, ti27 ax, ti3 ax, encA]
    with_reducible rfl
  · exact ⟨(by have q := Call0.call ((sslices_Contains_ok ax hx k f_.links link rContains e4 ).call (stL [.cells true 3 [lNodes n.nodes, lLinks n.links, lEdges n.edges], .cells true 2 [ints f_.links, .int .i64 f_.node], .cells true 3 [.int .i64 ((gx n.links link).frm), .int .i64 ((gx n.links link).to), .int .i64 ((gx n.links link).cap)]])); exact q), trivial⟩
  simp only [onT, onTB]
  refine TW.gen (bs := [.cells true 3 [lNodes n.nodes, lLinks n.links, lEdges n.edges], .cells true 2 [ints f_.links, .int .i64 f_.node], .cells true 3 [.int .i64 ((gx n.links link).frm), .int .i64 ((gx n.links link).to), .int .i64 ((gx n.links link).cap)]]) (fun h => h 6 = .bool (!rContains)) ?_ ?_ ?_
  · rfl
  · exact rfl
  clear h2 h4 h7 h
  rintro h h6
  apply TW.ret
  cases H
  refine ⟨.inr rfl, ?_⟩
  first | (simp only [Try.results35, resT, h6]; done) | (simp only [Try.results35, resT, h6]; rfl)
def sr09_isNode (k : Nat) (n : Net) (k_ : Int) : Option Bool := (if 0 ≤ k_ then some (decide (k_ < (n.nodes.length : Int))) else some false)
set_option maxHeartbeats 8000000 in
theorem sr09_isNode_ok (ax : Axs) (hx : Plain ax) (k : Nat) (n : Net) (k_ : Int) (v : Bool) (H : sr09_isNode k n k_ = some v) : Pure Try.prog (EE ax) [] 63 [eNet n, .int .i64 k_] (.bool v) := by
  rw [sr09_isNode] at H
  refine Pure.enter (fn := Try.f63) 14 (hx.no _ (by decide)) (fn63 ax) rfl Try.ntmps63 (by decide) (by simp) (by simp only [ids2B, ids2C, idsA, idsB, Bool.and_self]) (by first | rfl | simp only [ids2B, ids2C, idsA, idsB, Bool.and_self] | simp only [tupT, ids2B, ids2C, idsA, idsB, Bool.and_self]) ?_
  simp only [argT_cons, argT_nil, Nat.reduceAdd]
  refine TW.gen (bs := []) (fun h => h 0 = eNet n ∧ h 1 = .int .i64 k_) rfl ?_ ?_
  · exact ⟨rfl, rfl⟩
  rintro h ⟨h0, h1⟩
  repeat apply TW.seq
  apply TW.region (envs_ok ax) [] []
  · kernel_rfl
  · simp (disch := first | omega | decide | (simp only [lzA, Nat.reduceAdd, Nat.reduceLT]; done) | fail) only [b0, b1, b2, b3, b4, b5, b6, b7, b8, Nat.reduceAdd, Nat.reduceEqDiff, Nat.reduceMul, reduceIte, reduceCtorEq, h0, encA]
    with_reducible rfl
  · exact trivial
  simp only [onT, onTB]
  refine TW.gen (bs := [.cells true 3 [lNodes n.nodes, lLinks n.links, lEdges n.edges]]) (fun h => h 1 = .int .i64 k_ ∧ h 2 = .ptr 0 0 3) ?_ ?_ ?_
  · rfl
  · exact ⟨h1, rfl⟩
  clear h0 h1 h
  rintro h ⟨h1, h2⟩
  by_cases c1 : 0 ≤ k_
  case neg =>
    rw [if_neg c1] at H
    repeat apply TW.seq
    apply TW.region (envs_ok ax) [] []
    · kernel_rfl
    · simp (disch := first | omega | decide | (simp only [lzA, Nat.reduceAdd, Nat.reduceLT]; done) | fail) only [b0, b1, b2, b3, b4, b5, b6, b7, b8, Nat.reduceAdd, Nat.reduceEqDiff, Nat.reduceMul, reduceIte, reduceCtorEq, h1, h2, decide_eq_false c1, encA]
      with_reducible rfl
    · exact trivial
    simp only [onT, onTB]
    refine TW.gen (bs := [.cells true 3 [lNodes n.nodes, lLinks n.links, lEdges n.edges]]) (fun h => h 4 = .bool false) ?_ ?_ ?_
    · rfl
    · exact rfl
    clear h1 h2 h
    rintro h h4
    apply TW.ret
    cases H
    refine ⟨.inr rfl, ?_⟩
    first | (simp only [Try.results63, resT, h4]; done) | (simp only [Try.results63, resT, h4]; rfl)
  rw [if_pos c1] at H
  repeat apply TW.seq
  apply TW.region (envs_ok ax) [] []
  · kernel_rfl
  · simp (disch := first | omega | decide | (simp only [lzA, Nat.reduceAdd, Nat.reduceLT]; done) | fail) only [b0, b1, b2, b3, b4, b5, b6, b7, b8, Nat.reduceAdd, Nat.reduceEqDiff, Nat.reduceMul, reduceIte, reduceCtorEq, h1, h2, decide_eq_true c1, fa26_0, ti22 ax, encA]
    with_reducible rfl
  · exact trivial
  simp only [onT, onTB]
  refine TW.gen (bs := [.cells true 3 [lNodes n.nodes, lLinks n.links, lEdges n.edges]]) (fun h => h 4 = .bool (decide (k_ < (n.nodes.length : Int)))) ?_ ?_ ?_
  · rfl
  · exact rfl
  clear h1 h2 h
  rintro h h4
  apply TW.ret
  cases H
  refine ⟨.inr rfl, ?_⟩
  first | (simp only [Try.results63, resT, h4]; done) | (simp only [Try.results63, resT, h4]; rfl)
def sr09_Few (k : Nat) (n : Net) (nodes : Int) (links : Int) (edges : Int) : Option Bool := (if (n.nodes.length : Int) ≤ nodes then (if (n.links.length : Int) ≤ links then some (decide ((n.edges.length : Int) ≤ edges)) else some false) else some false)
set_option maxHeartbeats 8000000 in
theorem sr09_Few_ok (ax : Axs) (hx : Plain ax) (k : Nat) (n : Net) (nodes : Int) (links : Int) (edges : Int) (v : Bool) (H : sr09_Few k n nodes links edges = some v) : Pure Try.prog (EE ax) [] 31 [eNet n, .int .i64 nodes, .int .i64 links, .int .i64 edges] (.bool v) := by
  rw [sr09_Few] at H
  refine Pure.enter (fn := Try.f31) 28 (hx.no _ (by decide)) (fn31 ax) rfl Try.ntmps31 (by decide) (by simp) (by simp only [ids2B, ids2C, idsA, idsB, Bool.and_self]) (by first | rfl | simp only [ids2B, ids2C, idsA, idsB, Bool.and_self] | simp only [tupT, ids2B, ids2C, idsA, idsB, Bool.and_self]) ?_
  simp only [argT_cons, argT_nil, Nat.reduceAdd]
  refine TW.gen (bs := []) (fun h => h 0 = eNet n ∧ h 1 = .int .i64 nodes ∧ h 2 = .int .i64 links ∧ h 3 = .int .i64 edges) rfl ?_ ?_
  · exact ⟨rfl, rfl, rfl, rfl⟩
  rintro h ⟨h0, h1, h2, h3⟩
  repeat apply TW.seq
  apply TW.region (envs_ok ax) [] []
  · kernel_rfl
  · simp (disch := first | omega | decide | (simp only [lzA, Nat.reduceAdd, Nat.reduceLT]; done) | fail) only [b0, b1, b2, b3, b4, b5, b6, b7, b8, Nat.reduceAdd, Nat.reduceEqDiff, Nat.reduceMul, reduceIte, reduceCtorEq, h0, encA]
    with_reducible rfl
  · exact trivial
  simp only [onT, onTB]
  refine TW.gen (bs := [.cells true 3 [lNodes n.nodes, lLinks n.links, lEdges n.edges]]) (fun h => h 1 = .int .i64 nodes ∧ h 2 = .int .i64 links ∧ h 3 = .int .i64 edges ∧ h 4 = .ptr 0 0 3) ?_ ?_ ?_
  · rfl
  · exact ⟨h1, h2, h3, rfl⟩
  clear h0 h1 h2 h3 h
  rintro h ⟨h1, h2, h3, h4⟩
  by_cases c1 : (n.nodes.length : Int) ≤ nodes
  case neg =>
    rw [if_neg c1] at H
    repeat apply TW.seq
    apply TW.region (envs_ok ax) [] []
    · kernel_rfl
    · simp (maxSteps := 900000) (disch := first | omega | decide | (simp only [lzA, Nat.reduceAdd, Nat.reduceLT]; done) | fail) only [b0, b1, b2, b3, b4, b5, b6, b7, b8, Nat.reduceAdd, Nat.reduceEqDiff, Nat.reduceMul, reduceIte, reduceCtorEq, h4, h1, h2, h3, decide_eq_false c1, fa26_0, ti22 ax, encA]
      with_reducible rfl
    · exact trivial
    simp only [onT, onTB]
    refine TW.gen (bs := [.cells true 3 [lNodes n.nodes, lLinks n.links, lEdges n.edges]]) (fun h => h 8 = .bool false) ?_ ?_ ?_
    · rfl
    · exact rfl
    clear h1 h2 h3 h4 h
    rintro h h8
    apply TW.ret
    cases H
    refine ⟨.inr rfl, ?_⟩
    first | (simp only [Try.results31, resT, h8]; done) | (simp only [Try.results31, resT, h8]; rfl)
  rw [if_pos c1] at H
  by_cases c2 : (n.links.length : Int) ≤ links
  case neg =>
    rw [if_neg c2] at H
    repeat apply TW.seq
    apply TW.region (envs_ok ax) [] []
    · kernel_rfl
    · simp (maxSteps := 900000) (disch := first | omega | decide | (simp only [lzA, Nat.reduceAdd, Nat.reduceLT]; done) | fail) only [b0, b1, b2, b3, b4, b5, b6, b7, b8, Nat.reduceAdd, Nat.reduceEqDiff, Nat.reduceMul, reduceIte, reduceCtorEq, h4, h1, h2, h3, decide_eq_true c1, decide_eq_false c2, fa26_0, fa26_1, ti22 ax, ti23 ax, encA]
      with_reducible rfl
    · exact trivial
    simp only [onT, onTB]
    refine TW.gen (bs := [.cells true 3 [lNodes n.nodes, lLinks n.links, lEdges n.edges]]) (fun h => h 8 = .bool false) ?_ ?_ ?_
    · rfl
    · exact rfl
    clear h1 h2 h3 h4 h
    rintro h h8
    apply TW.ret
    cases H
    refine ⟨.inr rfl, ?_⟩
    first | (simp only [Try.results31, resT, h8]; done) | (simp only [Try.results31, resT, h8]; rfl)
  rw [if_pos c2] at H
  repeat apply TW.seq
  apply TW.region (envs_ok ax) [] []
  · kernel_rfl
  · simp (maxSteps := 900000) (disch := first | omega | decide | (simp only [lzA, Nat.reduceAdd, Nat.reduceLT]; done) | fail) only [b0, b1, b2, b3, b4, b5, b6, b7, b8, Nat.reduceAdd, Nat.reduceEqDiff, Nat.reduceMul, reduceIte, reduceCtorEq, h4, h1, h2, h3, decide_eq_true c1, decide_eq_true c2, fa26_0, fa26_1, fa26_2, ti22 ax, ti23 ax, ti24 ax, encA]
    with_reducible rfl
  · exact trivial
  simp only [onT, onTB]
  refine TW.gen (bs := [.cells true 3 [lNodes n.nodes, lLinks n.links, lEdges n.edges]]) (fun h => h 8 = .bool (decide ((n.edges.length : Int) ≤ edges))) ?_ ?_ ?_
  · rfl
  · exact rfl
  clear h1 h2 h3 h4 h
  rintro h h8
  apply TW.ret
  cases H
  refine ⟨.inr rfl, ?_⟩
  first | (simp only [Try.results31, resT, h8]; done) | (simp only [Try.results31, resT, h8]; rfl)
def sr08_Name_L0 (k : Nat) (s_ : ByteArray) : Nat → Int → Option (Bool ⊕ Unit)
  | 0, _ => none
  | m + 1, i => (if i < (s_.size : Int) then (((if (0 : Int) ≤ i ∧ i < (s_.size : Int) then (if 97 ≤ ((bx s_ i).toNat : Int) then some (decide (((bx s_ i).toNat : Int) ≤ 122)) else some false) else none) : Option Bool).bind fun s_3 => (((if (0 : Int) ≤ i ∧ i < (s_.size : Int) then (if 48 ≤ ((bx s_ i).toNat : Int) then (if ((bx s_ i).toNat : Int) ≤ 57 then some true else some (decide (((bx s_ i).toNat : Int) = 95))) else some (decide (((bx s_ i).toNat : Int) = 95))) else none) : Option Bool).bind fun s_4 => (if s_3 = true then sr08_Name_L0 k s_ m (IntKind.i64.wrap (i + 1)) else (if s_4 = true then (if i = 0 then some (.inl false) else sr08_Name_L0 k s_ m (IntKind.i64.wrap (i + 1))) else some (.inl false))))) else some (.inr ()))
def sr08_Name (k : Nat) (s_ : ByteArray) : Option Bool := ((sr08_Name_L0 k s_ k 0 : Option (Bool ⊕ Unit)).bind fun o => Sum.elim (fun r => some r) (fun s_2 => (if 1 ≤ (s_.size : Int) then some (decide ((s_.size : Int) ≤ 24)) else some false)) o)
set_option maxHeartbeats 8000000 in
theorem sr08_Name_ok (ax : Axs) (hx : Plain ax) (k : Nat) (s_ : ByteArray) (v : Bool) (H : sr08_Name k s_ = some v) : Pure Try.prog (EE ax) [] 71 [.str s_] (.bool v) := by
  rw [sr08_Name] at H
  refine Pure.enter (fn := Try.f71) 56 (hx.no _ (by decide)) (fn71 ax) rfl Try.ntmps71 (by decide) (by simp) (by simp only [ids2B, ids2C, idsA, idsB, Bool.and_self]) (by first | rfl | simp only [ids2B, ids2C, idsA, idsB, Bool.and_self] | simp only [tupT, ids2B, ids2C, idsA, idsB, Bool.and_self]) ?_
  simp only [argT_cons, argT_nil, Nat.reduceAdd]
  refine TW.gen (bs := []) (fun h => h 0 = .str s_) rfl ?_ ?_
  · exact rfl
  rintro h h0
  repeat apply TW.seq
  apply TW.region (envs_ok ax) [] []
  · kernel_rfl
  · simp (disch := first | omega | decide | (simp only [lzA, Nat.reduceAdd, Nat.reduceLT]; done) | fail) only [b0, b1, b2, b3, b4, b5, b6, b7, b8, Nat.reduceAdd, Nat.reduceEqDiff, Nat.reduceMul, reduceIte, reduceCtorEq, encA]
    with_reducible rfl
  · exact trivial
  simp only [onT, onTB]
  refine TW.gen (bs := []) (fun h => h 0 = .str s_) ?_ ?_ ?_
  · rfl
  · exact h0
  clear h0 h
  rintro h h0
  repeat apply TW.seq
  apply TW.region (envs_ok ax) [] []
  · kernel_rfl
  · simp (disch := first | omega | decide | (simp only [lzA, Nat.reduceAdd, Nat.reduceLT]; done) | fail) only [b0, b1, b2, b3, b4, b5, b6, b7, b8, Nat.reduceAdd, Nat.reduceEqDiff, Nat.reduceMul, reduceIte, reduceCtorEq, encA]
    with_reducible rfl
  · exact trivial
  simp only [onT, onTB]
  refine TW.gen (bs := []) (fun h => h 0 = .str s_ ∧ h 3 = .int .i64 0) ?_ ?_ ?_
  · rfl
  · exact ⟨h0, rfl⟩
  clear h0 h
  rintro h ⟨h0, h3⟩
  obtain ⟨o, H1, H⟩ := bsome H
  repeat apply TW.seq
  refine TW.cutN [0] 0 (by simp only [lzA] <;> omega) (fun h bs => ∃ s_2 : Unit, o = .inr s_2 ∧ h 0 = .str s_ ∧ bs = []) ?_ ?_
  · skip
    repeat apply TW.seq
    apply TW.block
    repeat apply TW.seq
    refine TW.loopT [0, 3] (fun m h bs => ∃ (i : Int), sr08_Name_L0 k s_ m i = some o ∧ h 0 = .str s_ ∧ h 3 = .int .i64 i ∧ bs = []) ?_ k _ _ ?_
    rotate_left
    · exact ⟨0, H1, (by first | exact h0 | (rw [h0]; rfl)), (by first | exact h3 | (rw [h3]; rfl)), rfl⟩
    clear h0 h3 h
    clear H1
    rintro m h bs ⟨i, H1, h0, h3, rfl⟩
    rcases m with _ | m
    · rw [sr08_Name_L0] at H1; cases H1
    rw [sr08_Name_L0] at H1
    repeat apply TW.seq
    apply TW.region (envs_ok ax) [] []
    · kernel_rfl
    · simp (disch := first | omega | decide | (simp only [lzA, Nat.reduceAdd, Nat.reduceLT]; done) | fail) only [b0, b1, b2, b3, b4, b5, b6, b7, b8, Nat.reduceAdd, Nat.reduceEqDiff, Nat.reduceMul, reduceIte, reduceCtorEq, h3, h0, ti9 ax, encA]
      with_reducible rfl
    · exact trivial
    simp only [onT, onTB]
    refine TW.gen (bs := []) (fun h => h 0 = .str s_ ∧ h 3 = .int .i64 i ∧ h 9 = .bool (decide (i < (s_.size : Int)))) ?_ ?_ ?_
    · rfl
    · exact ⟨h0, h3, rfl⟩
    clear h0 h3 h
    rintro h ⟨h0, h3, h9⟩
    by_cases c1 : i < (s_.size : Int)
    case neg =>
      rw [if_neg c1] at H1
      repeat apply TW.seq
      refine TW.cond (b := false) ?_ ?_
      · simp only [eT_tmp, eT_const, kT_bool, h9, decide_eq_false c1, Bool.not_true, Bool.not_false]
      simp only [cond_true, cond_false]
      apply TW.exit
      simp (disch := decide) only [onT, onTB, Nat.beq_refl, beq_no, cond_true, cond_false]
      cases H1
      refine ⟨_, rfl, by simp only [lzA] <;> omega, ?_, ?_, ?_⟩
      · simp only [ids2A, ids2B, ids2C, reduceIte, Nat.reduceEqDiff, Nat.reduceAdd, Nat.reduceLT, Nat.reduceLeDiff, idsA, idsB, h0, h3, h9]
      · simp only [ids2A, ids2B, ids2C, reduceIte, Nat.reduceEqDiff, Nat.reduceAdd, Nat.reduceLT, Nat.reduceLeDiff, idsA, idsB, h0, h3, h9]
      · exact ⟨_, rfl, (keepT_at (by decide)).trans (by first | exact h0 | (rw [h0]; rfl)), (by first | rfl | trivial)⟩
    rw [if_pos c1] at H1
    repeat apply TW.seq
    refine TW.cond (b := true) ?_ ?_
    · simp only [eT_tmp, eT_const, kT_bool, h9, decide_eq_true c1, Bool.not_true, Bool.not_false]
    simp only [cond_true, cond_false]
    repeat apply TW.seq
    apply TW.skip
    simp only [onT, onTB]
    repeat apply TW.seq
    apply TW.block
    obtain ⟨s_3, H2, H1⟩ := bsome H1
    repeat apply TW.seq
    refine TW.cutN [0, 3, 4] 0 (by simp only [lzA] <;> omega) (fun h bs => h 0 = .str s_ ∧ h 3 = .int .i64 i ∧ h 4 = .bool s_3 ∧ bs = []) ?_ ?_
    · skip
      by_cases g2 : (0 : Int) ≤ i ∧ i < (s_.size : Int)
      case neg => rw [if_neg g2] at H2; cases H2
      rw [if_pos g2] at H2
      by_cases c3 : 97 ≤ ((bx s_ i).toNat : Int)
      case neg =>
        rw [if_neg c3] at H2
        repeat apply TW.seq
        apply TW.region (envs_ok ax) [] []
        · kernel_rfl
        · simp (disch := first | omega | decide | (simp only [lzA, Nat.reduceAdd, Nat.reduceLT]; done) | fail) only [b0, b1, b2, b3, b4, b5, b6, b7, b8, Nat.reduceAdd, Nat.reduceEqDiff, Nat.reduceMul, reduceIte, reduceCtorEq, h0, h3, decide_eq_true c1, decide_eq_false c3, bx_some g2, ti9 ax, encA]
          with_reducible rfl
        · exact trivial
        simp only [onT, onTB]

        cases H2
        refine ⟨_, rfl, by simp only [lzA] <;> omega, ?_, ?_, ?_⟩
        · simp only [ids2A, ids2B, ids2C, reduceIte, Nat.reduceEqDiff, Nat.reduceAdd, Nat.reduceLT, Nat.reduceLeDiff, idsA, idsB, h0, h3, h9]
        · simp only [ids2A, ids2B, ids2C, reduceIte, Nat.reduceEqDiff, Nat.reduceAdd, Nat.reduceLT, Nat.reduceLeDiff, idsA, idsB, h0, h3, h9]
        · exact ⟨(keepT_at (by decide)).trans h0, (keepT_at (by decide)).trans h3, (keepT_at (by decide)).trans rfl, (by first | rfl | trivial)⟩
      rw [if_pos c3] at H2
      repeat apply TW.seq
      apply TW.region (envs_ok ax) [] []
      · kernel_rfl
      · simp (disch := first | omega | decide | (simp only [lzA, Nat.reduceAdd, Nat.reduceLT]; done) | fail) only [b0, b1, b2, b3, b4, b5, b6, b7, b8, Nat.reduceAdd, Nat.reduceEqDiff, Nat.reduceMul, reduceIte, reduceCtorEq, h0, h3, decide_eq_true c1, decide_eq_true c3, bx_some g2, ti9 ax, encA]
        with_reducible rfl
      · exact trivial
      simp only [onT, onTB]

      cases H2
      refine ⟨_, rfl, by simp only [lzA] <;> omega, ?_, ?_, ?_⟩
      · simp only [ids2A, ids2B, ids2C, reduceIte, Nat.reduceEqDiff, Nat.reduceAdd, Nat.reduceLT, Nat.reduceLeDiff, idsA, idsB, h0, h3, h9]
      · simp only [ids2A, ids2B, ids2C, reduceIte, Nat.reduceEqDiff, Nat.reduceAdd, Nat.reduceLT, Nat.reduceLeDiff, idsA, idsB, h0, h3, h9]
      · exact ⟨(keepT_at (by decide)).trans h0, (keepT_at (by decide)).trans h3, (keepT_at (by decide)).trans rfl, (by first | rfl | trivial)⟩
    clear h0 h3 h9 h
    rintro h bs ⟨h0, h3, h4, rfl⟩
    simp only [onT, onTB]
    obtain ⟨s_4, H2, H1⟩ := bsome H1
    repeat apply TW.seq
    refine TW.cutN [0, 3, 4, 5] 0 (by simp only [lzA] <;> omega) (fun h bs => h 0 = .str s_ ∧ h 3 = .int .i64 i ∧ h 4 = .bool s_3 ∧ h 5 = .bool s_4 ∧ bs = []) ?_ ?_
    · skip
      by_cases g4 : (0 : Int) ≤ i ∧ i < (s_.size : Int)
      case neg => rw [if_neg g4] at H2; cases H2
      rw [if_pos g4] at H2
      by_cases c5 : 48 ≤ ((bx s_ i).toNat : Int)
      case neg =>
        rw [if_neg c5] at H2
        repeat apply TW.seq
        apply TW.region (envs_ok ax) [] []
        · kernel_rfl
        · simp (maxSteps := 900000) (disch := first | omega | decide | (simp only [lzA, Nat.reduceAdd, Nat.reduceLT]; done) | fail) only [b0, b1, b2, b3, b4, b5, b6, b7, b8, Nat.reduceAdd, Nat.reduceEqDiff, Nat.reduceMul, reduceIte, reduceCtorEq, h0, h3, decide_eq_true c1, decide_eq_false c5, bx_some g4, ti9 ax, encA]
          with_reducible rfl
        · exact trivial
        simp only [onT, onTB]

        cases H2
        refine ⟨_, rfl, by simp only [lzA] <;> omega, ?_, ?_, ?_⟩
        · simp only [ids2A, ids2B, ids2C, reduceIte, Nat.reduceEqDiff, Nat.reduceAdd, Nat.reduceLT, Nat.reduceLeDiff, idsA, idsB, h0, h3, h4]
        · simp only [ids2A, ids2B, ids2C, reduceIte, Nat.reduceEqDiff, Nat.reduceAdd, Nat.reduceLT, Nat.reduceLeDiff, idsA, idsB, h0, h3, h4]
        · exact ⟨(keepT_at (by decide)).trans h0, (keepT_at (by decide)).trans h3, (keepT_at (by decide)).trans h4, (keepT_at (by decide)).trans rfl, (by first | rfl | trivial)⟩
      rw [if_pos c5] at H2
      by_cases c6 : ((bx s_ i).toNat : Int) ≤ 57
      case neg =>
        rw [if_neg c6] at H2
        repeat apply TW.seq
        apply TW.region (envs_ok ax) [] []
        · kernel_rfl
        · simp (maxSteps := 900000) (disch := first | omega | decide | (simp only [lzA, Nat.reduceAdd, Nat.reduceLT]; done) | fail) only [b0, b1, b2, b3, b4, b5, b6, b7, b8, Nat.reduceAdd, Nat.reduceEqDiff, Nat.reduceMul, reduceIte, reduceCtorEq, h0, h3, decide_eq_true c1, decide_eq_true c5, decide_eq_false c6, bx_some g4, ti9 ax, encA]
          with_reducible rfl
        · exact trivial
        simp only [onT, onTB]

        cases H2
        refine ⟨_, rfl, by simp only [lzA] <;> omega, ?_, ?_, ?_⟩
        · simp only [ids2A, ids2B, ids2C, reduceIte, Nat.reduceEqDiff, Nat.reduceAdd, Nat.reduceLT, Nat.reduceLeDiff, idsA, idsB, h0, h3, h4]
        · simp only [ids2A, ids2B, ids2C, reduceIte, Nat.reduceEqDiff, Nat.reduceAdd, Nat.reduceLT, Nat.reduceLeDiff, idsA, idsB, h0, h3, h4]
        · exact ⟨(keepT_at (by decide)).trans h0, (keepT_at (by decide)).trans h3, (keepT_at (by decide)).trans h4, (keepT_at (by decide)).trans rfl, (by first | rfl | trivial)⟩
      rw [if_pos c6] at H2
      repeat apply TW.seq
      apply TW.region (envs_ok ax) [] []
      · kernel_rfl
      · simp (maxSteps := 900000) (disch := first | omega | decide | (simp only [lzA, Nat.reduceAdd, Nat.reduceLT]; done) | fail) only [b0, b1, b2, b3, b4, b5, b6, b7, b8, Nat.reduceAdd, Nat.reduceEqDiff, Nat.reduceMul, reduceIte, reduceCtorEq, h0, h3, decide_eq_true c1, decide_eq_true c5, decide_eq_true c6, bx_some g4, ti9 ax, encA]
        with_reducible rfl
      · exact trivial
      simp only [onT, onTB]

      cases H2
      refine ⟨_, rfl, by simp only [lzA] <;> omega, ?_, ?_, ?_⟩
      · simp only [ids2A, ids2B, ids2C, reduceIte, Nat.reduceEqDiff, Nat.reduceAdd, Nat.reduceLT, Nat.reduceLeDiff, idsA, idsB, h0, h3, h4]
      · simp only [ids2A, ids2B, ids2C, reduceIte, Nat.reduceEqDiff, Nat.reduceAdd, Nat.reduceLT, Nat.reduceLeDiff, idsA, idsB, h0, h3, h4]
      · exact ⟨(keepT_at (by decide)).trans h0, (keepT_at (by decide)).trans h3, (keepT_at (by decide)).trans h4, (keepT_at (by decide)).trans rfl, (by first | rfl | trivial)⟩
    clear h0 h3 h4 h
    rintro h bs ⟨h0, h3, h4, h5, rfl⟩
    simp only [onT, onTB]
    by_cases c7 : s_3 = true
    case neg =>
      rw [if_neg c7] at H1
      have c7f := (Bool.not_eq_true _).mp c7
      by_cases c8 : s_4 = true
      case neg =>
        rw [if_neg c8] at H1
        have c8f := (Bool.not_eq_true _).mp c8
        repeat apply TW.seq
        apply TW.region (envs_ok ax) [] []
        · kernel_rfl
        · simp (disch := first | omega | decide | (simp only [lzA, Nat.reduceAdd, Nat.reduceLT]; done) | fail) only [b0, b1, b2, b3, b4, b5, b6, b7, b8, Nat.reduceAdd, Nat.reduceEqDiff, Nat.reduceMul, reduceIte, reduceCtorEq, h4, h5, h3, decide_eq_true c1, c7f, c8f, encA]
          with_reducible rfl
        · exact trivial
        simp only [onT, onTB]
        refine TW.gen (bs := []) (fun h => h 0 = .str s_ ∧ h 3 = .int .i64 i ∧ h 47 = .bool true) ?_ ?_ ?_
        · rfl
        · exact ⟨h0, h3, rfl⟩
        clear h0 h3 h4 h5 h
        rintro h ⟨h0, h3, h47⟩
        repeat apply TW.seq
        refine TW.cond (b := true) ?_ ?_
        · simp only [eT_tmp, eT_const, kT_bool, h47, decide_eq_true c1, c7f, c8f, Bool.not_true, Bool.not_false]
        simp only [cond_true, cond_false]
        repeat apply TW.seq
        apply TW.region (envs_ok ax) [] []
        · kernel_rfl
        · simp (disch := first | omega | decide | (simp only [lzA, Nat.reduceAdd, Nat.reduceLT]; done) | fail) only [b0, b1, b2, b3, b4, b5, b6, b7, b8, Nat.reduceAdd, Nat.reduceEqDiff, Nat.reduceMul, reduceIte, reduceCtorEq, decide_eq_true c1, c7f, c8f, encA]
          with_reducible rfl
        · exact trivial
        simp only [onT, onTB]
        refine TW.gen (bs := []) (fun h => h 2 = .bool false) ?_ ?_ ?_
        · rfl
        · exact rfl
        clear h0 h3 h47 h
        rintro h h2
        apply TW.ret
        cases H1
        rw [Sum.elim_inl] at H
        cases H
        refine ⟨.inr rfl, ?_⟩
        first | (simp only [Try.results71, resT, h2]; done) | (simp only [Try.results71, resT, h2]; rfl)
      rw [if_pos c8] at H1
      repeat apply TW.seq
      apply TW.region (envs_ok ax) [] []
      · kernel_rfl
      · simp (disch := first | omega | decide | (simp only [lzA, Nat.reduceAdd, Nat.reduceLT]; done) | fail) only [b0, b1, b2, b3, b4, b5, b6, b7, b8, Nat.reduceAdd, Nat.reduceEqDiff, Nat.reduceMul, reduceIte, reduceCtorEq, h4, h5, h3, decide_eq_true c1, c7f, c8, encA]
        with_reducible rfl
      · exact trivial
      simp only [onT, onTB]
      refine TW.gen (bs := []) (fun h => h 0 = .str s_ ∧ h 3 = .int .i64 i ∧ h 47 = .bool (decide (i = 0))) ?_ ?_ ?_
      · rfl
      · exact ⟨h0, h3, rfl⟩
      clear h0 h3 h4 h5 h
      rintro h ⟨h0, h3, h47⟩
      by_cases c9 : i = 0
      case neg =>
        rw [if_neg c9] at H1
        repeat apply TW.seq
        refine TW.cond (b := false) ?_ ?_
        · simp only [eT_tmp, eT_const, kT_bool, h47, decide_eq_true c1, c7f, c8, decide_eq_false c9, Bool.not_true, Bool.not_false]
        simp only [cond_true, cond_false]
        repeat apply TW.seq
        apply TW.skip
        simp only [onT, onTB]
        repeat apply TW.seq
        apply TW.region (envs_ok ax) [] []
        · kernel_rfl
        · simp (disch := first | omega | decide | (simp only [lzA, Nat.reduceAdd, Nat.reduceLT]; done) | fail) only [b0, b1, b2, b3, b4, b5, b6, b7, b8, Nat.reduceAdd, Nat.reduceEqDiff, Nat.reduceMul, reduceIte, reduceCtorEq, h3, decide_eq_true c1, c7f, c8, decide_eq_false c9, encA]
          with_reducible rfl
        · exact trivial
        simp only [onT, onTB]

        refine ⟨m, by omega, _, rfl, by simp only [lzA] <;> omega, ?_, ?_, ?_⟩
        · simp only [ids2A, ids2B, ids2C, reduceIte, Nat.reduceEqDiff, Nat.reduceAdd, Nat.reduceLT, Nat.reduceLeDiff, idsA, idsB, h0, h3, h47]
        · simp only [ids2A, ids2B, ids2C, reduceIte, Nat.reduceEqDiff, Nat.reduceAdd, Nat.reduceLT, Nat.reduceLeDiff, idsA, idsB, h0, h3, h47]
        · exact ⟨(IntKind.i64.wrap (i + 1)), H1, (keepT_at (by decide)).trans h0, (keepT_at (by decide)).trans rfl, (by first | rfl | trivial)⟩
      rw [if_pos c9] at H1
      repeat apply TW.seq
      refine TW.cond (b := true) ?_ ?_
      · simp only [eT_tmp, eT_const, kT_bool, h47, decide_eq_true c1, c7f, c8, decide_eq_true c9, Bool.not_true, Bool.not_false]
      simp only [cond_true, cond_false]
      repeat apply TW.seq
      apply TW.region (envs_ok ax) [] []
      · kernel_rfl
      · simp (disch := first | omega | decide | (simp only [lzA, Nat.reduceAdd, Nat.reduceLT]; done) | fail) only [b0, b1, b2, b3, b4, b5, b6, b7, b8, Nat.reduceAdd, Nat.reduceEqDiff, Nat.reduceMul, reduceIte, reduceCtorEq, decide_eq_true c1, c7f, c8, decide_eq_true c9, encA]
        with_reducible rfl
      · exact trivial
      simp only [onT, onTB]
      refine TW.gen (bs := []) (fun h => h 2 = .bool false) ?_ ?_ ?_
      · rfl
      · exact rfl
      clear h0 h3 h47 h
      rintro h h2
      apply TW.ret
      cases H1
      rw [Sum.elim_inl] at H
      cases H
      refine ⟨.inr rfl, ?_⟩
      first | (simp only [Try.results71, resT, h2]; done) | (simp only [Try.results71, resT, h2]; rfl)
    rw [if_pos c7] at H1
    repeat apply TW.seq
    apply TW.region (envs_ok ax) [] []
    · kernel_rfl
    · simp (disch := first | omega | decide | (simp only [lzA, Nat.reduceAdd, Nat.reduceLT]; done) | fail) only [b0, b1, b2, b3, b4, b5, b6, b7, b8, Nat.reduceAdd, Nat.reduceEqDiff, Nat.reduceMul, reduceIte, reduceCtorEq, h4, h5, h3, decide_eq_true c1, c7, encA]
      with_reducible rfl
    · exact trivial
    simp only [onT, onTB]
    refine TW.gen (bs := []) (fun h => h 0 = .str s_ ∧ h 3 = .int .i64 i ∧ h 47 = .bool false) ?_ ?_ ?_
    · rfl
    · exact ⟨h0, h3, rfl⟩
    clear h0 h3 h4 h5 h
    rintro h ⟨h0, h3, h47⟩
    repeat apply TW.seq
    refine TW.cond (b := false) ?_ ?_
    · simp only [eT_tmp, eT_const, kT_bool, h47, decide_eq_true c1, c7, Bool.not_true, Bool.not_false]
    simp only [cond_true, cond_false]
    repeat apply TW.seq
    apply TW.skip
    simp only [onT, onTB]
    repeat apply TW.seq
    apply TW.region (envs_ok ax) [] []
    · kernel_rfl
    · simp (disch := first | omega | decide | (simp only [lzA, Nat.reduceAdd, Nat.reduceLT]; done) | fail) only [b0, b1, b2, b3, b4, b5, b6, b7, b8, Nat.reduceAdd, Nat.reduceEqDiff, Nat.reduceMul, reduceIte, reduceCtorEq, h3, decide_eq_true c1, c7, encA]
      with_reducible rfl
    · exact trivial
    simp only [onT, onTB]

    refine ⟨m, by omega, _, rfl, by simp only [lzA] <;> omega, ?_, ?_, ?_⟩
    · simp only [ids2A, ids2B, ids2C, reduceIte, Nat.reduceEqDiff, Nat.reduceAdd, Nat.reduceLT, Nat.reduceLeDiff, idsA, idsB, h0, h3, h47]
    · simp only [ids2A, ids2B, ids2C, reduceIte, Nat.reduceEqDiff, Nat.reduceAdd, Nat.reduceLT, Nat.reduceLeDiff, idsA, idsB, h0, h3, h47]
    · exact ⟨(IntKind.i64.wrap (i + 1)), H1, (keepT_at (by decide)).trans h0, (keepT_at (by decide)).trans rfl, (by first | rfl | trivial)⟩
  clear h0 h3 h
  rintro h bs ⟨s_2, rfl, h0, rfl⟩
  rw [Sum.elim_inr] at H
  simp only [onT, onTB]
  by_cases c10 : 1 ≤ (s_.size : Int)
  case neg =>
    rw [if_neg c10] at H
    repeat apply TW.seq
    apply TW.region (envs_ok ax) [] []
    · kernel_rfl
    · simp (disch := first | omega | decide | (simp only [lzA, Nat.reduceAdd, Nat.reduceLT]; done) | fail) only [b0, b1, b2, b3, b4, b5, b6, b7, b8, Nat.reduceAdd, Nat.reduceEqDiff, Nat.reduceMul, reduceIte, reduceCtorEq, h0, decide_eq_false c10, ti9 ax, encA]
      with_reducible rfl
    · exact trivial
    simp only [onT, onTB]
    refine TW.gen (bs := []) (fun h => h 2 = .bool false) ?_ ?_ ?_
    · rfl
    · exact rfl
    clear h0 h
    rintro h h2
    apply TW.ret
    cases H
    refine ⟨.inr rfl, ?_⟩
    first | (simp only [Try.results71, resT, h2]; done) | (simp only [Try.results71, resT, h2]; rfl)
  rw [if_pos c10] at H
  repeat apply TW.seq
  apply TW.region (envs_ok ax) [] []
  · kernel_rfl
  · simp (disch := first | omega | decide | (simp only [lzA, Nat.reduceAdd, Nat.reduceLT]; done) | fail) only [b0, b1, b2, b3, b4, b5, b6, b7, b8, Nat.reduceAdd, Nat.reduceEqDiff, Nat.reduceMul, reduceIte, reduceCtorEq, h0, decide_eq_true c10, ti9 ax, encA]
    with_reducible rfl
  · exact trivial
  simp only [onT, onTB]
  refine TW.gen (bs := []) (fun h => h 2 = .bool (decide ((s_.size : Int) ≤ 24))) ?_ ?_ ?_
  · rfl
  · exact rfl
  clear h0 h
  rintro h h2
  apply TW.ret
  cases H
  refine ⟨.inr rfl, ?_⟩
  first | (simp only [Try.results71, resT, h2]; done) | (simp only [Try.results71, resT, h2]; rfl)
def sr09_named_L1 (k : Nat) (l : List ByteArray) (i : Int) : Nat → Int → Option (Bool ⊕ Unit)
  | 0, _ => none
  | m + 1, k_ => (if k_ < i then (if (0 : Int) ≤ k_ ∧ k_ < (l.length : Int) then (if (gx l k_) = (gx l i) then some (.inl false) else sr09_named_L1 k l i m (IntKind.i64.wrap (k_ + 1))) else none) else some (.inr ()))
def sr09_named_L0 (k : Nat) (l : List ByteArray) : Nat → Int → Option (Bool ⊕ Unit)
  | 0, _ => none
  | m + 1, i => (if i < (l.length : Int) then (((if (0 : Int) ≤ i ∧ i < (l.length : Int) then ((sr08_Name k (gx l i)).bind fun rName => (if rName = true then ((sr09_named_L1 k l i k 0 : Option (Bool ⊕ Unit)).bind fun o => Sum.elim (fun r => some (.inl r)) (fun s_3 => some (.inr ())) o) else some (.inl false))) else none) : Option (Bool ⊕ Unit)).bind fun o2 => Sum.elim (fun r => some (.inl r)) (fun s_2 => sr09_named_L0 k l m (IntKind.i64.wrap (i + 1))) o2) else some (.inr ()))
def sr09_named (k : Nat) (l : List ByteArray) : Option Bool := ((sr09_named_L0 k l k 0 : Option (Bool ⊕ Unit)).bind fun o3 => Sum.elim (fun r => some r) (fun s_ => some true) o3)
set_option maxHeartbeats 8000000 in
theorem sr09_named_ok (ax : Axs) (hx : Plain ax) (k : Nat) (l : List ByteArray) (v : Bool) (H : sr09_named k l = some v) : Pure Try.prog (EE ax) [] 62 [strs l] (.bool v) := by
  rw [sr09_named] at H
  refine Pure.enter (fn := Try.f62) 33 (hx.no _ (by decide)) (fn62 ax) rfl Try.ntmps62 (by decide) (by simp) (by simp only [ids2B, ids2C, idsA, idsB, Bool.and_self]) (by first | rfl | simp only [ids2B, ids2C, idsA, idsB, Bool.and_self] | simp only [tupT, ids2B, ids2C, idsA, idsB, Bool.and_self]) ?_
  simp only [argT_cons, argT_nil, Nat.reduceAdd]
  refine TW.gen (bs := []) (fun h => h 0 = strs l) rfl ?_ ?_
  · exact rfl
  rintro h h0
  repeat apply TW.seq
  apply TW.region (envs_ok ax) [] []
  · kernel_rfl
  · simp (disch := first | omega | decide | (simp only [lzA, Nat.reduceAdd, Nat.reduceLT]; done) | fail) only [b0, b1, b2, b3, b4, b5, b6, b7, b8, Nat.reduceAdd, Nat.reduceEqDiff, Nat.reduceMul, reduceIte, reduceCtorEq, encA]
    with_reducible rfl
  · exact trivial
  simp only [onT, onTB]
  refine TW.gen (bs := []) (fun h => h 0 = strs l) ?_ ?_ ?_
  · rfl
  · exact h0
  clear h0 h
  rintro h h0
  repeat apply TW.seq
  apply TW.region (envs_ok ax) [] []
  · kernel_rfl
  · simp (disch := first | omega | decide | (simp only [lzA, Nat.reduceAdd, Nat.reduceLT]; done) | fail) only [b0, b1, b2, b3, b4, b5, b6, b7, b8, Nat.reduceAdd, Nat.reduceEqDiff, Nat.reduceMul, reduceIte, reduceCtorEq, encA]
    with_reducible rfl
  · exact trivial
  simp only [onT, onTB]
  refine TW.gen (bs := []) (fun h => h 0 = strs l ∧ h 3 = .int .i64 0) ?_ ?_ ?_
  · rfl
  · exact ⟨h0, rfl⟩
  clear h0 h
  rintro h ⟨h0, h3⟩
  obtain ⟨o3, H1, H⟩ := bsome H
  repeat apply TW.seq
  refine TW.cutN [] 0 (by simp only [lzA] <;> omega) (fun h bs => ∃ s_ : Unit, o3 = .inr s_ ∧ bs = []) ?_ ?_
  · skip
    repeat apply TW.seq
    apply TW.block
    repeat apply TW.seq
    refine TW.loopT [0, 3] (fun m h bs => ∃ (i : Int), sr09_named_L0 k l m i = some o3 ∧ h 0 = strs l ∧ h 3 = .int .i64 i ∧ bs = []) ?_ k _ _ ?_
    rotate_left
    · exact ⟨0, H1, (by first | exact h0 | (rw [h0]; rfl)), (by first | exact h3 | (rw [h3]; rfl)), rfl⟩
    clear h0 h3 h
    clear H1
    rintro m h bs ⟨i, H1, h0, h3, rfl⟩
    rcases m with _ | m
    · rw [sr09_named_L0] at H1; cases H1
    rw [sr09_named_L0] at H1
    repeat apply TW.seq
    apply TW.region (envs_ok ax) [] []
    · kernel_rfl
    · simp (disch := first | omega | decide | (simp only [lzA, Nat.reduceAdd, Nat.reduceLT]; done) | fail) only [b0, b1, b2, b3, b4, b5, b6, b7, b8, Nat.reduceAdd, Nat.reduceEqDiff, Nat.reduceMul, reduceIte, reduceCtorEq, h3, h0, ti93 ax, encA]
      with_reducible rfl
    · exact trivial
    simp only [onT, onTB]
    refine TW.gen (bs := []) (fun h => h 0 = strs l ∧ h 3 = .int .i64 i ∧ h 9 = .bool (decide (i < (l.length : Int)))) ?_ ?_ ?_
    · rfl
    · exact ⟨h0, h3, rfl⟩
    clear h0 h3 h
    rintro h ⟨h0, h3, h9⟩
    by_cases c1 : i < (l.length : Int)
    case neg =>
      rw [if_neg c1] at H1
      repeat apply TW.seq
      refine TW.cond (b := false) ?_ ?_
      · simp only [eT_tmp, eT_const, kT_bool, h9, decide_eq_false c1, Bool.not_true, Bool.not_false]
      simp only [cond_true, cond_false]
      apply TW.exit
      simp (disch := decide) only [onT, onTB, Nat.beq_refl, beq_no, cond_true, cond_false]
      cases H1
      refine ⟨_, rfl, by simp only [lzA] <;> omega, ?_, ?_, ?_⟩
      · simp only [ids2A, ids2B, ids2C, reduceIte, Nat.reduceEqDiff, Nat.reduceAdd, Nat.reduceLT, Nat.reduceLeDiff, idsA, idsB, h0, h3, h9]
      · simp only [ids2A, ids2B, ids2C, reduceIte, Nat.reduceEqDiff, Nat.reduceAdd, Nat.reduceLT, Nat.reduceLeDiff, idsA, idsB, h0, h3, h9]
      · exact ⟨_, rfl, (by first | rfl | trivial)⟩
    rw [if_pos c1] at H1
    repeat apply TW.seq
    refine TW.cond (b := true) ?_ ?_
    · simp only [eT_tmp, eT_const, kT_bool, h9, decide_eq_true c1, Bool.not_true, Bool.not_false]
    simp only [cond_true, cond_false]
    repeat apply TW.seq
    apply TW.skip
    simp only [onT, onTB]
    obtain ⟨o2, H2, H1⟩ := bsome H1
    repeat apply TW.seq
    refine TW.cutN [0, 3] 0 (by simp only [lzA] <;> omega) (fun h bs => ∃ s_2 : Unit, o2 = .inr s_2 ∧ h 0 = strs l ∧ h 3 = .int .i64 i ∧ bs = []) ?_ ?_
    · skip
      repeat apply TW.seq
      apply TW.block
      by_cases g2 : (0 : Int) ≤ i ∧ i < (l.length : Int)
      case neg => rw [if_neg g2] at H2; cases H2
      rw [if_pos g2] at H2
      obtain ⟨rName, e3, H2⟩ := bsome H2
      repeat apply TW.seq
      apply TW.region (envs_ok ax) [] [(.bool rName, stL [])]
      · kernel_rfl
      · simp (disch := first | omega | decide | (simp only [lzA, Nat.reduceAdd, Nat.reduceLT]; done) | fail) only [b0, b1, b2, b3, b4, b5, b6, b7, b8, Nat.reduceAdd, Nat.reduceEqDiff, Nat.reduceMul, reduceIte, reduceCtorEq, h0, h3, decide_eq_true c1, gx_some g2, ti9 ax, ti93 ax, encA]
        with_reducible rfl
      · exact ⟨(by have q := Call0.call ((sr08_Name_ok ax hx k (gx l i) rName e3 ).call (stL [])); exact q), trivial⟩
      simp only [onT, onTB]
      refine TW.gen (bs := []) (fun h => h 0 = strs l ∧ h 3 = .int .i64 i ∧ h 4 = .bool rName) ?_ ?_ ?_
      · rfl
      · exact ⟨h0, h3, rfl⟩
      clear h0 h3 h9 h
      rintro h ⟨h0, h3, h4⟩
      repeat apply TW.seq
      apply TW.region (envs_ok ax) [] []
      · kernel_rfl
      · simp (disch := first | omega | decide | (simp only [lzA, Nat.reduceAdd, Nat.reduceLT]; done) | fail) only [b0, b1, b2, b3, b4, b5, b6, b7, b8, Nat.reduceAdd, Nat.reduceEqDiff, Nat.reduceMul, reduceIte, reduceCtorEq, h4, decide_eq_true c1, encA]
        with_reducible rfl
      · exact trivial
      simp only [onT, onTB]
      refine TW.gen (bs := []) (fun h => h 0 = strs l ∧ h 3 = .int .i64 i ∧ h 18 = .bool (!rName)) ?_ ?_ ?_
      · rfl
      · exact ⟨h0, h3, rfl⟩
      clear h0 h3 h4 h
      rintro h ⟨h0, h3, h18⟩
      by_cases c4 : rName = true
      case neg =>
        rw [if_neg c4] at H2
        have c4f := (Bool.not_eq_true _).mp c4
        repeat apply TW.seq
        refine TW.cond (b := true) ?_ ?_
        · simp only [eT_tmp, eT_const, kT_bool, h18, decide_eq_true c1, c4f, Bool.not_true, Bool.not_false]
        simp only [cond_true, cond_false]
        repeat apply TW.seq
        apply TW.region (envs_ok ax) [] []
        · kernel_rfl
        · simp (disch := first | omega | decide | (simp only [lzA, Nat.reduceAdd, Nat.reduceLT]; done) | fail) only [b0, b1, b2, b3, b4, b5, b6, b7, b8, Nat.reduceAdd, Nat.reduceEqDiff, Nat.reduceMul, reduceIte, reduceCtorEq, decide_eq_true c1, c4f, encA]
          with_reducible rfl
        · exact trivial
        simp only [onT, onTB]
        refine TW.gen (bs := []) (fun h => h 2 = .bool false) ?_ ?_ ?_
        · rfl
        · exact rfl
        clear h0 h3 h18 h
        rintro h h2
        apply TW.ret
        cases H2
        rw [Sum.elim_inl] at H1
        cases H1
        rw [Sum.elim_inl] at H
        cases H
        refine ⟨.inr rfl, ?_⟩
        first | (simp only [Try.results62, resT, h2]; done) | (simp only [Try.results62, resT, h2]; rfl)
      rw [if_pos c4] at H2
      repeat apply TW.seq
      refine TW.cond (b := false) ?_ ?_
      · simp only [eT_tmp, eT_const, kT_bool, h18, decide_eq_true c1, c4, Bool.not_true, Bool.not_false]
      simp only [cond_true, cond_false]
      repeat apply TW.seq
      apply TW.skip
      simp only [onT, onTB]
      repeat apply TW.seq
      apply TW.region (envs_ok ax) [] []
      · kernel_rfl
      · simp (disch := first | omega | decide | (simp only [lzA, Nat.reduceAdd, Nat.reduceLT]; done) | fail) only [b0, b1, b2, b3, b4, b5, b6, b7, b8, Nat.reduceAdd, Nat.reduceEqDiff, Nat.reduceMul, reduceIte, reduceCtorEq, decide_eq_true c1, c4, encA]
        with_reducible rfl
      · exact trivial
      simp only [onT, onTB]
      refine TW.gen (bs := []) (fun h => h 0 = strs l ∧ h 3 = .int .i64 i ∧ h 5 = .int .i64 0) ?_ ?_ ?_
      · rfl
      · exact ⟨h0, h3, rfl⟩
      clear h0 h3 h18 h
      rintro h ⟨h0, h3, h5⟩
      obtain ⟨o, H3, H2⟩ := bsome H2
      repeat apply TW.seq
      refine TW.cutN [0, 3] 0 (by simp only [lzA] <;> omega) (fun h bs => ∃ s_3 : Unit, o = .inr s_3 ∧ h 0 = strs l ∧ h 3 = .int .i64 i ∧ bs = []) ?_ ?_
      · skip
        repeat apply TW.seq
        apply TW.block
        repeat apply TW.seq
        refine TW.loopT [0, 3, 5] (fun m h bs => ∃ (k_ : Int), sr09_named_L1 k l i m k_ = some o ∧ h 0 = strs l ∧ h 3 = .int .i64 i ∧ h 5 = .int .i64 k_ ∧ bs = []) ?_ k _ _ ?_
        rotate_left
        · exact ⟨0, H3, (by first | exact h0 | (rw [h0]; rfl)), (by first | exact h3 | (rw [h3]; rfl)), (by first | exact h5 | (rw [h5]; rfl)), rfl⟩
        clear h0 h3 h5 h
        clear H3
        rintro m h bs ⟨k_, H3, h0, h3, h5, rfl⟩
        rcases m with _ | m
        · rw [sr09_named_L1] at H3; cases H3
        rw [sr09_named_L1] at H3
        repeat apply TW.seq
        apply TW.region (envs_ok ax) [] []
        · kernel_rfl
        · simp (disch := first | omega | decide | (simp only [lzA, Nat.reduceAdd, Nat.reduceLT]; done) | fail) only [b0, b1, b2, b3, b4, b5, b6, b7, b8, Nat.reduceAdd, Nat.reduceEqDiff, Nat.reduceMul, reduceIte, reduceCtorEq, h5, h3, decide_eq_true c1, c4, encA]
          with_reducible rfl
        · exact trivial
        simp only [onT, onTB]
        refine TW.gen (bs := []) (fun h => h 0 = strs l ∧ h 3 = .int .i64 i ∧ h 5 = .int .i64 k_ ∧ h 21 = .bool (decide (k_ < i))) ?_ ?_ ?_
        · rfl
        · exact ⟨h0, h3, h5, rfl⟩
        clear h0 h3 h5 h
        rintro h ⟨h0, h3, h5, h21⟩
        by_cases c5 : k_ < i
        case neg =>
          rw [if_neg c5] at H3
          repeat apply TW.seq
          refine TW.cond (b := false) ?_ ?_
          · simp only [eT_tmp, eT_const, kT_bool, h21, decide_eq_true c1, c4, decide_eq_false c5, Bool.not_true, Bool.not_false]
          simp only [cond_true, cond_false]
          apply TW.exit
          simp (disch := decide) only [onT, onTB, Nat.beq_refl, beq_no, cond_true, cond_false]
          cases H3
          refine ⟨_, rfl, by simp only [lzA] <;> omega, ?_, ?_, ?_⟩
          · simp only [ids2A, ids2B, ids2C, reduceIte, Nat.reduceEqDiff, Nat.reduceAdd, Nat.reduceLT, Nat.reduceLeDiff, idsA, idsB, h0, h3, h5, h21]
          · simp only [ids2A, ids2B, ids2C, reduceIte, Nat.reduceEqDiff, Nat.reduceAdd, Nat.reduceLT, Nat.reduceLeDiff, idsA, idsB, h0, h3, h5, h21]
          · exact ⟨_, rfl, (keepT_at (by decide)).trans (by first | exact h0 | (rw [h0]; rfl)), (keepT_at (by decide)).trans (by first | exact h3 | (rw [h3]; rfl)), (by first | rfl | trivial)⟩
        rw [if_pos c5] at H3
        repeat apply TW.seq
        refine TW.cond (b := true) ?_ ?_
        · simp only [eT_tmp, eT_const, kT_bool, h21, decide_eq_true c1, c4, decide_eq_true c5, Bool.not_true, Bool.not_false]
        simp only [cond_true, cond_false]
        repeat apply TW.seq
        apply TW.skip
        simp only [onT, onTB]
        repeat apply TW.seq
        apply TW.block
        by_cases g6 : (0 : Int) ≤ k_ ∧ k_ < (l.length : Int)
        case neg => rw [if_neg g6] at H3; cases H3
        rw [if_pos g6] at H3
        repeat apply TW.seq
        apply TW.draw (envs_ok ax) 8 [] [] []
        · kernel_rfl
        · kernel_rfl
        · simp (disch := first | omega | decide | (simp only [lzA, Nat.reduceAdd, Nat.reduceLT]; done) | fail) only [b0, b1, b2, b3, b4, b5, b6, b7, b8, Nat.reduceAdd, Nat.reduceEqDiff, Nat.reduceMul, reduceIte, reduceCtorEq, h0, h5, h3, decide_eq_true c1, c4, decide_eq_true c5, gx_some g6, gx_some g2, ti9 ax, ti93 ax, encA]
          with_reducible rfl
        · exact trivial
        · simp (disch := first | omega | decide | (simp only [lzA, Nat.reduceAdd, Nat.reduceLT]; done) | fail) only [b0, b1, b2, b3, b4, b5, b6, b7, b8, Nat.reduceAdd, Nat.reduceEqDiff, Nat.reduceMul, reduceIte, reduceCtorEq, h0, h5, h3, decide_eq_true c1, c4, decide_eq_true c5, gx_some g6, gx_some g2, ti9 ax, ti93 ax, encA]
          with_reducible rfl
        · exact trivial
        simp only [onT, onTB]
        refine TW.gen (bs := []) (fun h => h 0 = strs l ∧ h 3 = .int .i64 i ∧ h 5 = .int .i64 k_ ∧ h 32 = .bool (decide ((gx l k_) = (gx l i)))) ?_ ?_ ?_
        · rfl
        · exact ⟨h0, h3, h5, rfl⟩
        clear h0 h3 h5 h21 h
        rintro h ⟨h0, h3, h5, h32⟩
        by_cases c7 : (gx l k_) = (gx l i)
        case neg =>
          rw [if_neg c7] at H3
          repeat apply TW.seq
          refine TW.cond (b := false) ?_ ?_
          · simp only [eT_tmp, eT_const, kT_bool, h32, decide_eq_true c1, c4, decide_eq_true c5, decide_eq_false c7, Bool.not_true, Bool.not_false]
          simp only [cond_true, cond_false]
          repeat apply TW.seq
          apply TW.skip
          simp only [onT, onTB]
          repeat apply TW.seq
          apply TW.region (envs_ok ax) [] []
          · kernel_rfl
          · simp (disch := first | omega | decide | (simp only [lzA, Nat.reduceAdd, Nat.reduceLT]; done) | fail) only [b0, b1, b2, b3, b4, b5, b6, b7, b8, Nat.reduceAdd, Nat.reduceEqDiff, Nat.reduceMul, reduceIte, reduceCtorEq, h5, decide_eq_true c1, c4, decide_eq_true c5, decide_eq_false c7, encA]
            with_reducible rfl
          · exact trivial
          simp only [onT, onTB]

          refine ⟨m, by omega, _, rfl, by simp only [lzA] <;> omega, ?_, ?_, ?_⟩
          · simp only [ids2A, ids2B, ids2C, reduceIte, Nat.reduceEqDiff, Nat.reduceAdd, Nat.reduceLT, Nat.reduceLeDiff, idsA, idsB, h0, h3, h5, h32]
          · simp only [ids2A, ids2B, ids2C, reduceIte, Nat.reduceEqDiff, Nat.reduceAdd, Nat.reduceLT, Nat.reduceLeDiff, idsA, idsB, h0, h3, h5, h32]
          · exact ⟨(IntKind.i64.wrap (k_ + 1)), H3, (keepT_at (by decide)).trans h0, (keepT_at (by decide)).trans h3, (keepT_at (by decide)).trans rfl, (by first | rfl | trivial)⟩
        rw [if_pos c7] at H3
        repeat apply TW.seq
        refine TW.cond (b := true) ?_ ?_
        · simp only [eT_tmp, eT_const, kT_bool, h32, decide_eq_true c1, c4, decide_eq_true c5, decide_eq_true c7, Bool.not_true, Bool.not_false]
        simp only [cond_true, cond_false]
        repeat apply TW.seq
        apply TW.region (envs_ok ax) [] []
        · kernel_rfl
        · simp (disch := first | omega | decide | (simp only [lzA, Nat.reduceAdd, Nat.reduceLT]; done) | fail) only [b0, b1, b2, b3, b4, b5, b6, b7, b8, Nat.reduceAdd, Nat.reduceEqDiff, Nat.reduceMul, reduceIte, reduceCtorEq, decide_eq_true c1, c4, decide_eq_true c5, decide_eq_true c7, encA]
          with_reducible rfl
        · exact trivial
        simp only [onT, onTB]
        refine TW.gen (bs := []) (fun h => h 2 = .bool false) ?_ ?_ ?_
        · rfl
        · exact rfl
        clear h0 h3 h5 h32 h
        rintro h h2
        apply TW.ret
        cases H3
        rw [Sum.elim_inl] at H2
        cases H2
        rw [Sum.elim_inl] at H1
        cases H1
        rw [Sum.elim_inl] at H
        cases H
        refine ⟨.inr rfl, ?_⟩
        first | (simp only [Try.results62, resT, h2]; done) | (simp only [Try.results62, resT, h2]; rfl)
      clear h0 h3 h5 h
      rintro h bs ⟨s_3, rfl, h0, h3, rfl⟩
      rw [Sum.elim_inr] at H2
      simp only [onT, onTB]
      cases H2
      refine ⟨_, rfl, by simp only [lzA] <;> omega, ?_, ?_, ?_⟩
      · simp only [ids2A, ids2B, ids2C, reduceIte, Nat.reduceEqDiff, Nat.reduceAdd, Nat.reduceLT, Nat.reduceLeDiff, idsA, idsB, h0, h3]
      · simp only [ids2A, ids2B, ids2C, reduceIte, Nat.reduceEqDiff, Nat.reduceAdd, Nat.reduceLT, Nat.reduceLeDiff, idsA, idsB, h0, h3]
      · exact ⟨_, rfl, (keepT_at (by decide)).trans (by first | exact h0 | (rw [h0]; rfl)), (keepT_at (by decide)).trans (by first | exact h3 | (rw [h3]; rfl)), (by first | rfl | trivial)⟩
    clear h0 h3 h9 h
    rintro h bs ⟨s_2, rfl, h0, h3, rfl⟩
    rw [Sum.elim_inr] at H1
    simp only [onT, onTB]
    repeat apply TW.seq
    apply TW.region (envs_ok ax) [] []
    · kernel_rfl
    · simp (disch := first | omega | decide | (simp only [lzA, Nat.reduceAdd, Nat.reduceLT]; done) | fail) only [b0, b1, b2, b3, b4, b5, b6, b7, b8, Nat.reduceAdd, Nat.reduceEqDiff, Nat.reduceMul, reduceIte, reduceCtorEq, h3, decide_eq_true c1, encA]
      with_reducible rfl
    · exact trivial
    simp only [onT, onTB]

    refine ⟨m, by omega, _, rfl, by simp only [lzA] <;> omega, ?_, ?_, ?_⟩
    · simp only [ids2A, ids2B, ids2C, reduceIte, Nat.reduceEqDiff, Nat.reduceAdd, Nat.reduceLT, Nat.reduceLeDiff, idsA, idsB, h0, h3]
    · simp only [ids2A, ids2B, ids2C, reduceIte, Nat.reduceEqDiff, Nat.reduceAdd, Nat.reduceLT, Nat.reduceLeDiff, idsA, idsB, h0, h3]
    · exact ⟨(IntKind.i64.wrap (i + 1)), H1, (keepT_at (by decide)).trans h0, (keepT_at (by decide)).trans rfl, (by first | rfl | trivial)⟩
  clear h0 h3 h
  rintro h bs ⟨s_, rfl, rfl⟩
  rw [Sum.elim_inr] at H
  simp only [onT, onTB]
  repeat apply TW.seq
  apply TW.region (envs_ok ax) [] []
  · kernel_rfl
  · simp (disch := first | omega | decide | (simp only [lzA, Nat.reduceAdd, Nat.reduceLT]; done) | fail) only [b0, b1, b2, b3, b4, b5, b6, b7, b8, Nat.reduceAdd, Nat.reduceEqDiff, Nat.reduceMul, reduceIte, reduceCtorEq, encA]
    with_reducible rfl
  · exact trivial
  simp only [onT, onTB]
  refine TW.gen (bs := []) (fun h => h 2 = .bool true) ?_ ?_ ?_
  · rfl
  · exact rfl
  clear  h
  rintro h h2
  apply TW.ret
  cases H
  refine ⟨.inr rfl, ?_⟩
  first | (simp only [Try.results62, resT, h2]; done) | (simp only [Try.results62, resT, h2]; rfl)
def sr09_Names_L0 (k : Nat) (n : Net) : Nat → Int → (List ByteArray) → Nat → Option (List ByteArray × Nat)
  | 0, _, _, _ => none
  | m + 1, i, l, n2 => (if i < (n.nodes.length : Int) then (if (0 : Int) ≤ i ∧ i < (n.nodes.length : Int) then (if (n2 + 1) * 17 ≤ 1000000000 then sr09_Names_L0 k n m (IntKind.i64.wrap (i + 1)) (l ++ [(gx n.nodes i).name]) (n2 + 1) else none) else none) else some (l, n2))
def sr09_Names_L1 (k : Nat) (n : Net) : Nat → Int → (List ByteArray) → Nat → Option (List ByteArray × Nat)
  | 0, _, _, _ => none
  | m + 1, i2, l2, n3 => (if i2 < (n.edges.length : Int) then (if (0 : Int) ≤ i2 ∧ i2 < (n.edges.length : Int) then (if (n3 + 1) * 17 ≤ 1000000000 then sr09_Names_L1 k n m (IntKind.i64.wrap (i2 + 1)) (l2 ++ [(gx n.edges i2).name]) (n3 + 1) else none) else none) else some (l2, n3))
def sr09_Names (k : Nat) (n : Net) : Option (List ByteArray × List ByteArray) := ((sr09_Names_L0 k n k 0 [] 0 : Option (List ByteArray × Nat)).bind fun s_ => ((sr09_Names_L1 k n k 0 [] 0 : Option (List ByteArray × Nat)).bind fun s_2 => (if s_.1.length = s_.2 then (if s_2.1.length = s_2.2 then some (s_.1, s_2.1) else none) else none)))
set_option maxHeartbeats 8000000 in
theorem sr09_Names_ok (ax : Axs) (hx : Plain ax) (k : Nat) (n : Net) (v : List ByteArray × List ByteArray) (H : sr09_Names k n = some v) : Pure Try.prog (EE ax) [] 61 [eNet n] (tupT [strs v.1, strs v.2]) := by
  rw [sr09_Names] at H
  refine Pure.enterN (fn := Try.f61) 42 (hx.no _ (by decide)) (fn61 ax) rfl Try.ntmps61 (by decide) (by simp) (by simp only [ids2B, ids2C, idsA, idsB, Bool.and_self]) (by first | rfl | simp only [ids2B, ids2C, idsA, idsB, Bool.and_self] | simp only [tupT, ids2B, ids2C, idsA, idsB, Bool.and_self]) ?_
  simp only [argT_cons, argT_nil, Nat.reduceAdd]
  refine TW.gen (bs := []) (fun h => h 0 = eNet n) rfl ?_ ?_
  · exact rfl
  rintro h h0
  repeat apply TW.seq
  apply TW.region (envs_ok ax) [] []
  · kernel_rfl
  · simp (disch := first | omega | decide | (simp only [lzA, Nat.reduceAdd, Nat.reduceLT]; done) | fail) only [b0, b1, b2, b3, b4, b5, b6, b7, b8, Nat.reduceAdd, Nat.reduceEqDiff, Nat.reduceMul, reduceIte, reduceCtorEq, h0, encA]
    with_reducible rfl
  · exact trivial
  simp only [onT, onTB]
  refine TW.gen (bs := [.cells true 3 [lNodes n.nodes, lLinks n.links, lEdges n.edges]]) (fun h => h 1 = .ptr 0 0 3) ?_ ?_ ?_
  · rfl
  · exact rfl
  clear h0 h
  rintro h h1
  repeat apply TW.seq
  apply TW.region (envs_ok ax) [] []
  · kernel_rfl
  · simp (disch := first | omega | decide | (simp only [lzA, Nat.reduceAdd, Nat.reduceLT]; done) | fail) only [b0, b1, b2, b3, b4, b5, b6, b7, b8, Nat.reduceAdd, Nat.reduceEqDiff, Nat.reduceMul, reduceIte, reduceCtorEq, encA]
    with_reducible rfl
  · exact trivial
  simp only [onT, onTB]
  refine TW.vec 4 1 (by first | rfl | (simp only [tupd_at, Nat.reduceEqDiff, reduceIte]; done)) ?_
  rw [st_add]
  simp only [scB, Nat.reduceAdd]
  refine TW.gen (bs := [.cells true 3 [lNodes n.nodes, lLinks n.links, lEdges n.edges], .cells false 0 ([].map T.str)]) (fun h => h 1 = .ptr 0 0 3 ∧ h 4 = .arr 1 1 0 0 0 0) ?_ ?_ ?_
  · rfl
  · exact ⟨h1, (by first | rfl | (simp only [gsA, vecC_append, Nat.reduceEqDiff, reduceIte]; done) | (simp only [gsA, vecC_append, Nat.reduceEqDiff, reduceIte]; rfl))⟩
  clear h1 h
  rintro h ⟨h1, h4⟩
  repeat apply TW.seq
  apply TW.region (envs_ok ax) [] []
  · kernel_rfl
  · simp (disch := first | omega | decide | (simp only [lzA, Nat.reduceAdd, Nat.reduceLT]; done) | fail) only [b0, b1, b2, b3, b4, b5, b6, b7, b8, Nat.reduceAdd, Nat.reduceEqDiff, Nat.reduceMul, reduceIte, reduceCtorEq, encA]
    with_reducible rfl
  · exact trivial
  simp only [onT, onTB]
  refine TW.vec 5 1 (by first | rfl | (simp only [tupd_at, Nat.reduceEqDiff, reduceIte]; done)) ?_
  rw [st_add]
  simp only [scB, Nat.reduceAdd]
  refine TW.gen (bs := [.cells true 3 [lNodes n.nodes, lLinks n.links, lEdges n.edges], .cells false 0 ([].map T.str), .cells false 0 ([].map T.str)]) (fun h => h 1 = .ptr 0 0 3 ∧ h 4 = .arr 1 1 0 0 0 0 ∧ h 5 = .arr 2 1 0 0 0 0) ?_ ?_ ?_
  · rfl
  · exact ⟨h1, h4, (by first | rfl | (simp only [gsA, vecC_append, Nat.reduceEqDiff, reduceIte]; done) | (simp only [gsA, vecC_append, Nat.reduceEqDiff, reduceIte]; rfl))⟩
  clear h1 h4 h
  rintro h ⟨h1, h4, h5⟩
  repeat apply TW.seq
  apply TW.region (envs_ok ax) [] []
  · kernel_rfl
  · simp (disch := first | omega | decide | (simp only [lzA, Nat.reduceAdd, Nat.reduceLT]; done) | fail) only [b0, b1, b2, b3, b4, b5, b6, b7, b8, Nat.reduceAdd, Nat.reduceEqDiff, Nat.reduceMul, reduceIte, reduceCtorEq, encA]
    with_reducible rfl
  · exact trivial
  simp only [onT, onTB]
  refine TW.gen (bs := [.cells true 3 [lNodes n.nodes, lLinks n.links, lEdges n.edges], .cells false 0 ([].map T.str), .cells false 0 ([].map T.str)]) (fun h => h 1 = .ptr 0 0 3 ∧ h 4 = .arr 1 1 0 0 0 0 ∧ h 5 = .arr 2 1 0 0 0 0 ∧ h 6 = .int .i64 0) ?_ ?_ ?_
  · rfl
  · exact ⟨h1, h4, h5, rfl⟩
  clear h1 h4 h5 h
  rintro h ⟨h1, h4, h5, h6⟩
  obtain ⟨s_, H1, H⟩ := bsome H
  repeat apply TW.seq
  refine TW.cutN [1, 4, 5] 3 (by simp only [lzA] <;> omega) (fun h bs => h 1 = .ptr 0 0 3 ∧ h 4 = .arr 1 1 0 s_.2 s_.2 s_.2 ∧ h 5 = .arr 2 1 0 0 0 0 ∧ bs = [.cells true 3 [lNodes n.nodes, lLinks n.links, lEdges n.edges], .cells false s_.2 (s_.1.map T.str), .cells false 0 ([].map T.str)]) ?_ ?_
  · skip
    repeat apply TW.seq
    apply TW.block
    repeat apply TW.seq
    refine TW.loopT [1, 4, 5, 6] (fun m h bs => ∃ (i : Int) (l : List ByteArray) (n2 : Nat), sr09_Names_L0 k n m i l n2 = some s_ ∧ h 1 = .ptr 0 0 3 ∧ h 4 = .arr 1 1 0 n2 n2 n2 ∧ h 5 = .arr 2 1 0 0 0 0 ∧ h 6 = .int .i64 i ∧ bs = [.cells true 3 [lNodes n.nodes, lLinks n.links, lEdges n.edges], .cells false n2 (l.map T.str), .cells false 0 ([].map T.str)]) ?_ k _ _ ?_
    rotate_left
    · exact ⟨0, [], 0, H1, (by first | exact h1 | (rw [h1]; rfl)), (by first | exact h4 | (rw [h4]; rfl)), (by first | exact h5 | (rw [h5]; rfl)), (by first | exact h6 | (rw [h6]; rfl)), rfl⟩
    clear h1 h4 h5 h6 h
    clear H1
    rintro m h bs ⟨i, l, n2, H1, h1, h4, h5, h6, rfl⟩
    rcases m with _ | m
    · rw [sr09_Names_L0] at H1; cases H1
    rw [sr09_Names_L0] at H1
    repeat apply TW.seq
    apply TW.region (envs_ok ax) [] []
    · kernel_rfl
    · simp (disch := first | omega | decide | (simp only [lzA, Nat.reduceAdd, Nat.reduceLT]; done) | fail) only [b0, b1, b2, b3, b4, b5, b6, b7, b8, Nat.reduceAdd, Nat.reduceEqDiff, Nat.reduceMul, reduceIte, reduceCtorEq, h6, h1, fa26_0, ti22 ax, encA]
      with_reducible rfl
    · exact trivial
    simp only [onT, onTB]
    refine TW.gen (bs := [.cells true 3 [lNodes n.nodes, lLinks n.links, lEdges n.edges], .cells false n2 (l.map T.str), .cells false 0 ([].map T.str)]) (fun h => h 1 = .ptr 0 0 3 ∧ h 4 = .arr 1 1 0 n2 n2 n2 ∧ h 5 = .arr 2 1 0 0 0 0 ∧ h 6 = .int .i64 i ∧ h 12 = .bool (decide (i < (n.nodes.length : Int)))) ?_ ?_ ?_
    · rfl
    · exact ⟨h1, h4, h5, h6, rfl⟩
    clear h1 h4 h5 h6 h
    rintro h ⟨h1, h4, h5, h6, h12⟩
    by_cases c1 : i < (n.nodes.length : Int)
    case neg =>
      rw [if_neg c1] at H1
      repeat apply TW.seq
      refine TW.cond (b := false) ?_ ?_
      · simp only [eT_tmp, eT_const, kT_bool, h12, decide_eq_false c1, Bool.not_true, Bool.not_false]
      simp only [cond_true, cond_false]
      apply TW.exit
      simp (disch := decide) only [onT, onTB, Nat.beq_refl, beq_no, cond_true, cond_false]
      cases H1
      refine ⟨_, rfl, by simp only [lzA] <;> omega, ?_, ?_, ?_⟩
      · simp only [ids2A, ids2B, ids2C, reduceIte, Nat.reduceEqDiff, Nat.reduceAdd, Nat.reduceLT, Nat.reduceLeDiff, idsA, idsB, h1, h4, h5, h6, h12]
      · simp only [ids2A, ids2B, ids2C, reduceIte, Nat.reduceEqDiff, Nat.reduceAdd, Nat.reduceLT, Nat.reduceLeDiff, idsA, idsB, h1, h4, h5, h6, h12]
      · exact ⟨(keepT_at (by decide)).trans (by first | exact h1 | (rw [h1]; rfl)), (keepT_at (by decide)).trans (by first | exact h4 | (rw [h4]; rfl)), (keepT_at (by decide)).trans (by first | exact h5 | (rw [h5]; rfl)), (by first | rfl | trivial)⟩
    rw [if_pos c1] at H1
    repeat apply TW.seq
    refine TW.cond (b := true) ?_ ?_
    · simp only [eT_tmp, eT_const, kT_bool, h12, decide_eq_true c1, Bool.not_true, Bool.not_false]
    simp only [cond_true, cond_false]
    repeat apply TW.seq
    apply TW.skip
    simp only [onT, onTB]
    repeat apply TW.seq
    apply TW.block
    by_cases g2 : (0 : Int) ≤ i ∧ i < (n.nodes.length : Int)
    case neg => rw [if_neg g2] at H1; cases H1
    rw [if_pos g2] at H1
    by_cases g3 : (n2 + 1) * 17 ≤ 1000000000
    case neg => rw [if_neg g3] at H1; cases H1
    rw [if_pos g3] at H1
    repeat apply TW.seq
    apply TW.region (envs_ok ax) [] []
    · kernel_rfl
    · simp (disch := first | omega | decide | (simp only [lzA, Nat.reduceAdd, Nat.reduceLT]; done) | fail) only [b0, b1, b2, b3, b4, b5, b6, b7, b8, Nat.reduceAdd, Nat.reduceEqDiff, Nat.reduceMul, reduceIte, reduceCtorEq, h4, h1, h6, decide_eq_true c1, gx_some g2, el93, elemsT, fa26_0, fc98_0, sP_buildSlice, sT_buildSlice, sr93, tBuildFrozen, ti22 ax, ti9 ax, ti98 ax, encA, apA, apB, tSrc]
      with_reducible rfl
    · exact trivial
    simp only [onT, onTB]
    refine TW.gen (bs := [.cells true 3 [lNodes n.nodes, lLinks n.links, lEdges n.edges], .cells false (n2 + 1) ((l ++ [(gx n.nodes i).name]).map T.str), .cells false 0 ([].map T.str)]) (fun h => h 1 = .ptr 0 0 3 ∧ h 4 = .arr 1 1 0 (n2 + 1) (n2 + 1) (n2 + 1) ∧ h 5 = .arr 2 1 0 0 0 0 ∧ h 6 = .int .i64 i) ?_ ?_ ?_
    · first | rfl | (simp only [gsA, vecC_append, Nat.reduceEqDiff, reduceIte, h4, h1, h6, decide_eq_true c1]; done) | (simp only [gsA, vecC_append, Nat.reduceEqDiff, reduceIte, h4, h1, h6, decide_eq_true c1]; rfl)
    · exact ⟨h1, (by first | rfl | (simp only [gsA, vecC_append, Nat.reduceEqDiff, reduceIte, h4, h1, h6, decide_eq_true c1]; done) | (simp only [gsA, vecC_append, Nat.reduceEqDiff, reduceIte, h4, h1, h6, decide_eq_true c1]; rfl)), h5, h6⟩
    clear h1 h4 h5 h6 h12 h
    rintro h ⟨h1, h4, h5, h6⟩
    repeat apply TW.seq
    apply TW.region (envs_ok ax) [] []
    · kernel_rfl
    · simp (disch := first | omega | decide | (simp only [lzA, Nat.reduceAdd, Nat.reduceLT]; done) | fail) only [b0, b1, b2, b3, b4, b5, b6, b7, b8, Nat.reduceAdd, Nat.reduceEqDiff, Nat.reduceMul, reduceIte, reduceCtorEq, h6, decide_eq_true c1, encA]
      with_reducible rfl
    · exact trivial
    simp only [onT, onTB]

    refine ⟨m, by omega, _, rfl, by simp only [lzA] <;> omega, ?_, ?_, ?_⟩
    · simp only [ids2A, ids2B, ids2C, reduceIte, Nat.reduceEqDiff, Nat.reduceAdd, Nat.reduceLT, Nat.reduceLeDiff, idsA, idsB, h1, h4, h5, h6]
    · simp only [ids2A, ids2B, ids2C, reduceIte, Nat.reduceEqDiff, Nat.reduceAdd, Nat.reduceLT, Nat.reduceLeDiff, idsA, idsB, h1, h4, h5, h6]
    · exact ⟨(IntKind.i64.wrap (i + 1)), (l ++ [(gx n.nodes i).name]), (n2 + 1), H1, (keepT_at (by decide)).trans h1, (keepT_at (by decide)).trans h4, (keepT_at (by decide)).trans h5, (keepT_at (by decide)).trans rfl, (by first | rfl | trivial)⟩
  clear h1 h4 h5 h6 h
  rintro h bs ⟨h1, h4, h5, rfl⟩
  simp only [onT, onTB]
  repeat apply TW.seq
  apply TW.region (envs_ok ax) [] []
  · kernel_rfl
  · simp (disch := first | omega | decide | (simp only [lzA, Nat.reduceAdd, Nat.reduceLT]; done) | fail) only [b0, b1, b2, b3, b4, b5, b6, b7, b8, Nat.reduceAdd, Nat.reduceEqDiff, Nat.reduceMul, reduceIte, reduceCtorEq, encA]
    with_reducible rfl
  · exact trivial
  simp only [onT, onTB]
  refine TW.gen (bs := [.cells true 3 [lNodes n.nodes, lLinks n.links, lEdges n.edges], .cells false s_.2 (s_.1.map T.str), .cells false 0 ([].map T.str)]) (fun h => h 1 = .ptr 0 0 3 ∧ h 4 = .arr 1 1 0 s_.2 s_.2 s_.2 ∧ h 5 = .arr 2 1 0 0 0 0 ∧ h 7 = .int .i64 0) ?_ ?_ ?_
  · rfl
  · exact ⟨h1, h4, h5, rfl⟩
  clear h1 h4 h5 h
  rintro h ⟨h1, h4, h5, h7⟩
  obtain ⟨s_2, H1, H⟩ := bsome H
  repeat apply TW.seq
  refine TW.cutN [4, 5] 3 (by simp only [lzA] <;> omega) (fun h bs => h 4 = .arr 1 1 0 s_.2 s_.2 s_.2 ∧ h 5 = .arr 2 1 0 s_2.2 s_2.2 s_2.2 ∧ bs = [.cells true 3 [lNodes n.nodes, lLinks n.links, lEdges n.edges], .cells false s_.2 (s_.1.map T.str), .cells false s_2.2 (s_2.1.map T.str)]) ?_ ?_
  · skip
    repeat apply TW.seq
    apply TW.block
    repeat apply TW.seq
    refine TW.loopT [1, 4, 5, 7] (fun m h bs => ∃ (i2 : Int) (l2 : List ByteArray) (n3 : Nat), sr09_Names_L1 k n m i2 l2 n3 = some s_2 ∧ h 1 = .ptr 0 0 3 ∧ h 4 = .arr 1 1 0 s_.2 s_.2 s_.2 ∧ h 5 = .arr 2 1 0 n3 n3 n3 ∧ h 7 = .int .i64 i2 ∧ bs = [.cells true 3 [lNodes n.nodes, lLinks n.links, lEdges n.edges], .cells false s_.2 (s_.1.map T.str), .cells false n3 (l2.map T.str)]) ?_ k _ _ ?_
    rotate_left
    · exact ⟨0, [], 0, H1, (by first | exact h1 | (rw [h1]; rfl)), (by first | exact h4 | (rw [h4]; rfl)), (by first | exact h5 | (rw [h5]; rfl)), (by first | exact h7 | (rw [h7]; rfl)), rfl⟩
    clear h1 h4 h5 h7 h
    clear H1
    rintro m h bs ⟨i2, l2, n3, H1, h1, h4, h5, h7, rfl⟩
    rcases m with _ | m
    · rw [sr09_Names_L1] at H1; cases H1
    rw [sr09_Names_L1] at H1
    repeat apply TW.seq
    apply TW.region (envs_ok ax) [] []
    · kernel_rfl
    · simp (disch := first | omega | decide | (simp only [lzA, Nat.reduceAdd, Nat.reduceLT]; done) | fail) only [b0, b1, b2, b3, b4, b5, b6, b7, b8, Nat.reduceAdd, Nat.reduceEqDiff, Nat.reduceMul, reduceIte, reduceCtorEq, h7, h1, fa26_2, ti24 ax, encA]
      with_reducible rfl
    · exact trivial
    simp only [onT, onTB]
    refine TW.gen (bs := [.cells true 3 [lNodes n.nodes, lLinks n.links, lEdges n.edges], .cells false s_.2 (s_.1.map T.str), .cells false n3 (l2.map T.str)]) (fun h => h 1 = .ptr 0 0 3 ∧ h 4 = .arr 1 1 0 s_.2 s_.2 s_.2 ∧ h 5 = .arr 2 1 0 n3 n3 n3 ∧ h 7 = .int .i64 i2 ∧ h 28 = .bool (decide (i2 < (n.edges.length : Int)))) ?_ ?_ ?_
    · rfl
    · exact ⟨h1, h4, h5, h7, rfl⟩
    clear h1 h4 h5 h7 h
    rintro h ⟨h1, h4, h5, h7, h28⟩
    by_cases c4 : i2 < (n.edges.length : Int)
    case neg =>
      rw [if_neg c4] at H1
      repeat apply TW.seq
      refine TW.cond (b := false) ?_ ?_
      · simp only [eT_tmp, eT_const, kT_bool, h28, decide_eq_false c4, Bool.not_true, Bool.not_false]
      simp only [cond_true, cond_false]
      apply TW.exit
      simp (disch := decide) only [onT, onTB, Nat.beq_refl, beq_no, cond_true, cond_false]
      cases H1
      refine ⟨_, rfl, by simp only [lzA] <;> omega, ?_, ?_, ?_⟩
      · simp only [ids2A, ids2B, ids2C, reduceIte, Nat.reduceEqDiff, Nat.reduceAdd, Nat.reduceLT, Nat.reduceLeDiff, idsA, idsB, h1, h4, h5, h7, h28]
      · simp only [ids2A, ids2B, ids2C, reduceIte, Nat.reduceEqDiff, Nat.reduceAdd, Nat.reduceLT, Nat.reduceLeDiff, idsA, idsB, h1, h4, h5, h7, h28]
      · exact ⟨(keepT_at (by decide)).trans (by first | exact h4 | (rw [h4]; rfl)), (keepT_at (by decide)).trans (by first | exact h5 | (rw [h5]; rfl)), (by first | rfl | trivial)⟩
    rw [if_pos c4] at H1
    repeat apply TW.seq
    refine TW.cond (b := true) ?_ ?_
    · simp only [eT_tmp, eT_const, kT_bool, h28, decide_eq_true c4, Bool.not_true, Bool.not_false]
    simp only [cond_true, cond_false]
    repeat apply TW.seq
    apply TW.skip
    simp only [onT, onTB]
    repeat apply TW.seq
    apply TW.block
    by_cases g5 : (0 : Int) ≤ i2 ∧ i2 < (n.edges.length : Int)
    case neg => rw [if_neg g5] at H1; cases H1
    rw [if_pos g5] at H1
    by_cases g6 : (n3 + 1) * 17 ≤ 1000000000
    case neg => rw [if_neg g6] at H1; cases H1
    rw [if_pos g6] at H1
    repeat apply TW.seq
    apply TW.region (envs_ok ax) [] []
    · kernel_rfl
    · simp (disch := first | omega | decide | (simp only [lzA, Nat.reduceAdd, Nat.reduceLT]; done) | fail) only [b0, b1, b2, b3, b4, b5, b6, b7, b8, Nat.reduceAdd, Nat.reduceEqDiff, Nat.reduceMul, reduceIte, reduceCtorEq, h5, h1, h7, decide_eq_true c4, gx_some g5, el93, elemsT, fa26_2, fc100_0, sP_buildSlice, sT_buildSlice, sr93, tBuildFrozen, ti100 ax, ti24 ax, ti9 ax, encA, apA, apB, tSrc]
      with_reducible rfl
    · exact trivial
    simp only [onT, onTB]
    refine TW.gen (bs := [.cells true 3 [lNodes n.nodes, lLinks n.links, lEdges n.edges], .cells false s_.2 (s_.1.map T.str), .cells false (n3 + 1) ((l2 ++ [(gx n.edges i2).name]).map T.str)]) (fun h => h 1 = .ptr 0 0 3 ∧ h 4 = .arr 1 1 0 s_.2 s_.2 s_.2 ∧ h 5 = .arr 2 1 0 (n3 + 1) (n3 + 1) (n3 + 1) ∧ h 7 = .int .i64 i2) ?_ ?_ ?_
    · first | rfl | (simp only [gsA, vecC_append, Nat.reduceEqDiff, reduceIte, h5, h1, h7, decide_eq_true c4]; done) | (simp only [gsA, vecC_append, Nat.reduceEqDiff, reduceIte, h5, h1, h7, decide_eq_true c4]; rfl)
    · exact ⟨h1, h4, (by first | rfl | (simp only [gsA, vecC_append, Nat.reduceEqDiff, reduceIte, h5, h1, h7, decide_eq_true c4]; done) | (simp only [gsA, vecC_append, Nat.reduceEqDiff, reduceIte, h5, h1, h7, decide_eq_true c4]; rfl)), h7⟩
    clear h1 h4 h5 h7 h28 h
    rintro h ⟨h1, h4, h5, h7⟩
    repeat apply TW.seq
    apply TW.region (envs_ok ax) [] []
    · kernel_rfl
    · simp (disch := first | omega | decide | (simp only [lzA, Nat.reduceAdd, Nat.reduceLT]; done) | fail) only [b0, b1, b2, b3, b4, b5, b6, b7, b8, Nat.reduceAdd, Nat.reduceEqDiff, Nat.reduceMul, reduceIte, reduceCtorEq, h7, decide_eq_true c4, encA]
      with_reducible rfl
    · exact trivial
    simp only [onT, onTB]

    refine ⟨m, by omega, _, rfl, by simp only [lzA] <;> omega, ?_, ?_, ?_⟩
    · simp only [ids2A, ids2B, ids2C, reduceIte, Nat.reduceEqDiff, Nat.reduceAdd, Nat.reduceLT, Nat.reduceLeDiff, idsA, idsB, h1, h4, h5, h7]
    · simp only [ids2A, ids2B, ids2C, reduceIte, Nat.reduceEqDiff, Nat.reduceAdd, Nat.reduceLT, Nat.reduceLeDiff, idsA, idsB, h1, h4, h5, h7]
    · exact ⟨(IntKind.i64.wrap (i2 + 1)), (l2 ++ [(gx n.edges i2).name]), (n3 + 1), H1, (keepT_at (by decide)).trans h1, (keepT_at (by decide)).trans h4, (keepT_at (by decide)).trans h5, (keepT_at (by decide)).trans rfl, (by first | rfl | trivial)⟩
  clear h1 h4 h5 h7 h
  rintro h bs ⟨h4, h5, rfl⟩
  simp only [onT, onTB]
  repeat apply TW.seq
  apply TW.region (envs_ok ax) [] []
  · kernel_rfl
  · simp (disch := first | omega | decide | (simp only [lzA, Nat.reduceAdd, Nat.reduceLT]; done) | fail) only [b0, b1, b2, b3, b4, b5, b6, b7, b8, Nat.reduceAdd, Nat.reduceEqDiff, Nat.reduceMul, reduceIte, reduceCtorEq, h4, h5, encA]
    with_reducible rfl
  · exact trivial
  simp only [onT, onTB]
  refine TW.gen (bs := [.cells true 3 [lNodes n.nodes, lLinks n.links, lEdges n.edges], .cells false s_.2 (s_.1.map T.str), .cells false s_2.2 (s_2.1.map T.str)]) (fun h => h 2 = .arr 1 1 0 s_.2 s_.2 s_.2 ∧ h 3 = .arr 2 1 0 s_2.2 s_2.2 s_2.2) ?_ ?_ ?_
  · rfl
  · exact ⟨(by first | rfl | (simp only [gsA, vecC_append, Nat.reduceEqDiff, reduceIte, h4, h5]; done) | (simp only [gsA, vecC_append, Nat.reduceEqDiff, reduceIte, h4, h5]; rfl)), (by first | rfl | (simp only [gsA, vecC_append, Nat.reduceEqDiff, reduceIte, h4, h5]; done) | (simp only [gsA, vecC_append, Nat.reduceEqDiff, reduceIte, h4, h5]; rfl))⟩
  clear h4 h5 h
  rintro h ⟨h2, h3⟩
  by_cases g7 : s_.1.length = s_.2
  case neg => rw [if_neg g7] at H; cases H
  rw [if_pos g7] at H
  by_cases g8 : s_2.1.length = s_2.2
  case neg => rw [if_neg g8] at H; cases H
  rw [if_pos g8] at H
  refine TW.freeze 2 (b := 1) (e := 1) (off := 0) (len := s_.2) (cap := s_.2) (M := s_.2) (s_.1.map T.str) h2 (by rfl) (by omega) (by omega) (by rw [List.drop_zero, Nat.mul_one, cells_map (fun _ => rfl), List.take_of_length_le (by rw [List.length_map]; omega)]) (fun t ht => by obtain ⟨x, _, rfl⟩ := List.mem_map.1 ht; rfl) (by rw [List.length_map]; exact g7) (by omega) ?_
  rw [st_set _ _ _ (by simp only [lzA] <;> omega)]
  simp only [scA]
  refine TW.gen (bs := [.cells true 3 [lNodes n.nodes, lLinks n.links, lEdges n.edges], .gone, .cells false s_2.2 (s_2.1.map T.str)]) (fun h => h 2 = strs s_.1 ∧ h 3 = .arr 2 1 0 s_2.2 s_2.2 s_2.2) ?_ ?_ ?_
  · rfl
  · exact ⟨rfl, h3⟩
  clear h2 h3 h
  rintro h ⟨h2, h3⟩
  refine TW.freeze 3 (b := 2) (e := 1) (off := 0) (len := s_2.2) (cap := s_2.2) (M := s_2.2) (s_2.1.map T.str) h3 (by rfl) (by omega) (by omega) (by rw [List.drop_zero, Nat.mul_one, cells_map (fun _ => rfl), List.take_of_length_le (by rw [List.length_map]; omega)]) (fun t ht => by obtain ⟨x, _, rfl⟩ := List.mem_map.1 ht; rfl) (by rw [List.length_map]; exact g8) (by omega) ?_
  rw [st_set _ _ _ (by simp only [lzA] <;> omega)]
  simp only [scA]
  refine TW.gen (bs := [.cells true 3 [lNodes n.nodes, lLinks n.links, lEdges n.edges], .gone, .gone]) (fun h => h 2 = strs s_.1 ∧ h 3 = strs s_2.1) ?_ ?_ ?_
  · rfl
  · exact ⟨h2, rfl⟩
  clear h2 h3 h
  rintro h ⟨h2, h3⟩
  apply TW.ret
  cases H
  refine ⟨.inr rfl, ?_⟩
  first | (simp only [Try.results61, resT, h2, h3]; done) | (simp only [Try.results61, resT, h2, h3]; rfl)
def sr09_Check_L0 (k : Nat) (n : Net) : Nat → Int → Option (Int ⊕ Unit)
  | 0, _ => none
  | m + 1, i => (if i < (n.nodes.length : Int) then (if (0 : Int) ≤ i ∧ i < (n.nodes.length : Int) then (if ((gx n.nodes i).rules) < 0 then some (.inl 1) else (if 4000 < ((gx n.nodes i).rules) then some (.inl 1) else (if ((gx n.nodes i).entries) < 0 then some (.inl 1) else (if 100000 < ((gx n.nodes i).entries) then some (.inl 1) else sr09_Check_L0 k n m (IntKind.i64.wrap (i + 1)))))) else none) else some (.inr ()))
def sr09_Check_L1 (k : Nat) (n : Net) : Nat → Int → Option (Int ⊕ Unit)
  | 0, _ => none
  | m + 1, i2 => (if i2 < (n.links.length : Int) then (if (0 : Int) ≤ i2 ∧ i2 < (n.links.length : Int) then ((sr09_isNode k n ((gx n.links i2).frm)).bind fun risNode => (if risNode = true then ((sr09_isNode k n ((gx n.links i2).to)).bind fun risNode2 => (if risNode2 = true then (if ((gx n.links i2).frm) = ((gx n.links i2).to) then some (.inl 1) else (if ((gx n.links i2).cap) < 0 then some (.inl 1) else (if 1048576 < ((gx n.links i2).cap) then some (.inl 1) else sr09_Check_L1 k n m (IntKind.i64.wrap (i2 + 1))))) else some (.inl 1))) else some (.inl 1))) else none) else some (.inr ()))
def sr09_Check_L2 (k : Nat) (n : Net) : Nat → Int → Option (Int ⊕ Unit)
  | 0, _ => none
  | m + 1, i3 => (if i3 < (n.edges.length : Int) then (if (0 : Int) ≤ i3 ∧ i3 < (n.edges.length : Int) then ((sr09_isNode k n ((gx n.edges i3).node)).bind fun risNode3 => (if risNode3 = true then sr09_Check_L2 k n m (IntKind.i64.wrap (i3 + 1)) else some (.inl 1))) else none) else some (.inr ()))
def sr09_Check (k : Nat) (n : Net) : Option Int := (((if 200 < (n.nodes.length : Int) then some true else (if 2000 < (n.links.length : Int) then some true else some (decide (400 < (n.edges.length : Int))))) : Option Bool).bind fun s_ => (if s_ = true then some 2 else ((sr09_Names k n).bind fun rNames => ((sr09_named k rNames.1).bind fun rnamed => ((sr09_named k rNames.2).bind fun rnamed2 => (((if rnamed = true then some (!rnamed2) else some true) : Option Bool).bind fun s_2 => (if s_2 = true then some 4 else ((sr09_Check_L0 k n k 0 : Option (Int ⊕ Unit)).bind fun o3 => Sum.elim (fun r => some r) (fun s_3 => ((sr09_Check_L1 k n k 0 : Option (Int ⊕ Unit)).bind fun o2 => Sum.elim (fun r => some r) (fun s_4 => ((sr09_Check_L2 k n k 0 : Option (Int ⊕ Unit)).bind fun o => Sum.elim (fun r => some r) (fun s_5 => some 0) o)) o2)) o3))))))))
set_option maxHeartbeats 8000000 in
theorem sr09_Check_ok (ax : Axs) (hx : Plain ax) (k : Nat) (n : Net) (v : Int) (H : sr09_Check k n = some v) : Pure Try.prog (EE ax) [] 32 [eNet n] (.int .i64 v) := by
  rw [sr09_Check] at H
  refine Pure.enter (fn := Try.f32) 130 (hx.no _ (by decide)) (fn32 ax) rfl Try.ntmps32 (by decide) (by simp) (by simp only [ids2B, ids2C, idsA, idsB, Bool.and_self]) (by first | rfl | simp only [ids2B, ids2C, idsA, idsB, Bool.and_self] | simp only [tupT, ids2B, ids2C, idsA, idsB, Bool.and_self]) ?_
  simp only [argT_cons, argT_nil, Nat.reduceAdd]
  refine TW.gen (bs := []) (fun h => h 0 = eNet n) rfl ?_ ?_
  · exact rfl
  rintro h h0
  repeat apply TW.seq
  apply TW.region (envs_ok ax) [] []
  · kernel_rfl
  · simp (disch := first | omega | decide | (simp only [lzA, Nat.reduceAdd, Nat.reduceLT]; done) | fail) only [b0, b1, b2, b3, b4, b5, b6, b7, b8, Nat.reduceAdd, Nat.reduceEqDiff, Nat.reduceMul, reduceIte, reduceCtorEq, h0, encA]
    with_reducible rfl
  · exact trivial
  simp only [onT, onTB]
  refine TW.gen (bs := [.cells true 3 [lNodes n.nodes, lLinks n.links, lEdges n.edges]]) (fun h => h 1 = .ptr 0 0 3) ?_ ?_ ?_
  · rfl
  · exact rfl
  clear h0 h
  rintro h h1
  obtain ⟨s_, H1, H⟩ := bsome H
  repeat apply TW.seq
  refine TW.cutN [1, 27] 1 (by simp only [lzA] <;> omega) (fun h bs => h 1 = .ptr 0 0 3 ∧ h 27 = .bool s_ ∧ bs = [.cells true 3 [lNodes n.nodes, lLinks n.links, lEdges n.edges]]) ?_ ?_
  · skip
    by_cases c1 : 200 < (n.nodes.length : Int)
    case neg =>
      rw [if_neg c1] at H1
      by_cases c2 : 2000 < (n.links.length : Int)
      case neg =>
        rw [if_neg c2] at H1
        repeat apply TW.seq
        apply TW.region (envs_ok ax) [] []
        · kernel_rfl
        · simp (maxSteps := 900000) (disch := first | omega | decide | (simp only [lzA, Nat.reduceAdd, Nat.reduceLT]; done) | fail) only [b0, b1, b2, b3, b4, b5, b6, b7, b8, Nat.reduceAdd, Nat.reduceEqDiff, Nat.reduceMul, reduceIte, reduceCtorEq, h1, decide_eq_false c1, decide_eq_false c2, fa26_0, fa26_1, fa26_2, ti22 ax, ti23 ax, ti24 ax, encA]
          with_reducible rfl
        · exact trivial
        simp only [onT, onTB]

        cases H1
        refine ⟨_, rfl, by simp only [lzA] <;> omega, ?_, ?_, ?_⟩
        · simp only [ids2A, ids2B, ids2C, reduceIte, Nat.reduceEqDiff, Nat.reduceAdd, Nat.reduceLT, Nat.reduceLeDiff, idsA, idsB, h1]
        · simp only [ids2A, ids2B, ids2C, reduceIte, Nat.reduceEqDiff, Nat.reduceAdd, Nat.reduceLT, Nat.reduceLeDiff, idsA, idsB, h1]
        · exact ⟨(keepT_at (by decide)).trans h1, (keepT_at (by decide)).trans rfl, (by first | rfl | trivial)⟩
      rw [if_pos c2] at H1
      repeat apply TW.seq
      apply TW.region (envs_ok ax) [] []
      · kernel_rfl
      · simp (maxSteps := 900000) (disch := first | omega | decide | (simp only [lzA, Nat.reduceAdd, Nat.reduceLT]; done) | fail) only [b0, b1, b2, b3, b4, b5, b6, b7, b8, Nat.reduceAdd, Nat.reduceEqDiff, Nat.reduceMul, reduceIte, reduceCtorEq, h1, decide_eq_false c1, decide_eq_true c2, fa26_0, fa26_1, ti22 ax, ti23 ax, encA]
        with_reducible rfl
      · exact trivial
      simp only [onT, onTB]

      cases H1
      refine ⟨_, rfl, by simp only [lzA] <;> omega, ?_, ?_, ?_⟩
      · simp only [ids2A, ids2B, ids2C, reduceIte, Nat.reduceEqDiff, Nat.reduceAdd, Nat.reduceLT, Nat.reduceLeDiff, idsA, idsB, h1]
      · simp only [ids2A, ids2B, ids2C, reduceIte, Nat.reduceEqDiff, Nat.reduceAdd, Nat.reduceLT, Nat.reduceLeDiff, idsA, idsB, h1]
      · exact ⟨(keepT_at (by decide)).trans h1, (keepT_at (by decide)).trans rfl, (by first | rfl | trivial)⟩
    rw [if_pos c1] at H1
    repeat apply TW.seq
    apply TW.region (envs_ok ax) [] []
    · kernel_rfl
    · simp (maxSteps := 900000) (disch := first | omega | decide | (simp only [lzA, Nat.reduceAdd, Nat.reduceLT]; done) | fail) only [b0, b1, b2, b3, b4, b5, b6, b7, b8, Nat.reduceAdd, Nat.reduceEqDiff, Nat.reduceMul, reduceIte, reduceCtorEq, h1, decide_eq_true c1, fa26_0, ti22 ax, encA]
      with_reducible rfl
    · exact trivial
    simp only [onT, onTB]

    cases H1
    refine ⟨_, rfl, by simp only [lzA] <;> omega, ?_, ?_, ?_⟩
    · simp only [ids2A, ids2B, ids2C, reduceIte, Nat.reduceEqDiff, Nat.reduceAdd, Nat.reduceLT, Nat.reduceLeDiff, idsA, idsB, h1]
    · simp only [ids2A, ids2B, ids2C, reduceIte, Nat.reduceEqDiff, Nat.reduceAdd, Nat.reduceLT, Nat.reduceLeDiff, idsA, idsB, h1]
    · exact ⟨(keepT_at (by decide)).trans h1, (keepT_at (by decide)).trans rfl, (by first | rfl | trivial)⟩
  clear h1 h
  rintro h bs ⟨h1, h27, rfl⟩
  simp only [onT, onTB]
  by_cases c3 : s_ = true
  case neg =>
    rw [if_neg c3] at H
    have c3f := (Bool.not_eq_true _).mp c3
    repeat apply TW.seq
    refine TW.cond (b := false) ?_ ?_
    · simp only [eT_tmp, eT_const, kT_bool, h27, c3f, Bool.not_true, Bool.not_false]
    simp only [cond_true, cond_false]
    repeat apply TW.seq
    apply TW.skip
    simp only [onT, onTB]
    obtain ⟨rNames, e4, H⟩ := bsome H
    repeat apply TW.seq
    apply TW.region (envs_ok ax) [] [(.tup [strs rNames.1, strs rNames.2], stL [.cells true 3 [lNodes n.nodes, lLinks n.links, lEdges n.edges]])]
    · kernel_rfl
    · simp (disch := first | omega | decide | (simp only [lzA, Nat.reduceAdd, Nat.reduceLT]; done) | fail) only [b0, b1, b2, b3, b4, b5, b6, b7, b8, Nat.reduceAdd, Nat.reduceEqDiff, Nat.reduceMul, reduceIte, reduceCtorEq, h1, c3f, ti26 ax, encA]
      with_reducible rfl
    · exact ⟨(by have q := Call0.call ((sr09_Names_ok ax hx k n rNames e4 ).call (stL [.cells true 3 [lNodes n.nodes, lLinks n.links, lEdges n.edges]])); (try simp only [c3f] at q); exact q), trivial⟩
    simp only [onT, onTB]
    refine TW.gen (bs := [.cells true 3 [lNodes n.nodes, lLinks n.links, lEdges n.edges]]) (fun h => h 1 = .ptr 0 0 3 ∧ h 3 = strs rNames.1 ∧ h 4 = strs rNames.2) ?_ ?_ ?_
    · rfl
    · exact ⟨h1, rfl, rfl⟩
    clear h1 h27 h
    rintro h ⟨h1, h3, h4⟩
    obtain ⟨rnamed, e5, H⟩ := bsome H
    repeat apply TW.seq
    apply TW.region (envs_ok ax) [] [(.bool rnamed, stL [.cells true 3 [lNodes n.nodes, lLinks n.links, lEdges n.edges]])]
    · kernel_rfl
    · simp (disch := first | omega | decide | (simp only [lzA, Nat.reduceAdd, Nat.reduceLT]; done) | fail) only [b0, b1, b2, b3, b4, b5, b6, b7, b8, Nat.reduceAdd, Nat.reduceEqDiff, Nat.reduceMul, reduceIte, reduceCtorEq, h3, c3f, encA]
      with_reducible rfl
    · exact ⟨(by have q := Call0.call ((sr09_named_ok ax hx k rNames.1 rnamed e5 ).call (stL [.cells true 3 [lNodes n.nodes, lLinks n.links, lEdges n.edges]])); (try simp only [c3f] at q); exact q), trivial⟩
    simp only [onT, onTB]
    refine TW.gen (bs := [.cells true 3 [lNodes n.nodes, lLinks n.links, lEdges n.edges]]) (fun h => h 1 = .ptr 0 0 3 ∧ h 4 = strs rNames.2 ∧ h 5 = .bool rnamed) ?_ ?_ ?_
    · rfl
    · exact ⟨h1, h4, rfl⟩
    clear h1 h3 h4 h
    rintro h ⟨h1, h4, h5⟩
    obtain ⟨rnamed2, e6, H⟩ := bsome H
    repeat apply TW.seq
    apply TW.region (envs_ok ax) [] [(.bool rnamed2, stL [.cells true 3 [lNodes n.nodes, lLinks n.links, lEdges n.edges]])]
    · kernel_rfl
    · simp (disch := first | omega | decide | (simp only [lzA, Nat.reduceAdd, Nat.reduceLT]; done) | fail) only [b0, b1, b2, b3, b4, b5, b6, b7, b8, Nat.reduceAdd, Nat.reduceEqDiff, Nat.reduceMul, reduceIte, reduceCtorEq, h4, c3f, encA]
      with_reducible rfl
    · exact ⟨(by have q := Call0.call ((sr09_named_ok ax hx k rNames.2 rnamed2 e6 ).call (stL [.cells true 3 [lNodes n.nodes, lLinks n.links, lEdges n.edges]])); (try simp only [c3f] at q); exact q), trivial⟩
    simp only [onT, onTB]
    refine TW.gen (bs := [.cells true 3 [lNodes n.nodes, lLinks n.links, lEdges n.edges]]) (fun h => h 1 = .ptr 0 0 3 ∧ h 5 = .bool rnamed ∧ h 6 = .bool rnamed2) ?_ ?_ ?_
    · rfl
    · exact ⟨h1, h5, rfl⟩
    clear h1 h4 h5 h
    rintro h ⟨h1, h5, h6⟩
    obtain ⟨s_2, H1, H⟩ := bsome H
    repeat apply TW.seq
    refine TW.cutN [1, 42] 1 (by simp only [lzA] <;> omega) (fun h bs => h 1 = .ptr 0 0 3 ∧ h 42 = .bool s_2 ∧ bs = [.cells true 3 [lNodes n.nodes, lLinks n.links, lEdges n.edges]]) ?_ ?_
    · skip
      by_cases c7 : rnamed = true
      case neg =>
        rw [if_neg c7] at H1
        have c7f := (Bool.not_eq_true _).mp c7
        repeat apply TW.seq
        apply TW.region (envs_ok ax) [] []
        · kernel_rfl
        · simp (disch := first | omega | decide | (simp only [lzA, Nat.reduceAdd, Nat.reduceLT]; done) | fail) only [b0, b1, b2, b3, b4, b5, b6, b7, b8, Nat.reduceAdd, Nat.reduceEqDiff, Nat.reduceMul, reduceIte, reduceCtorEq, h5, h6, c3f, c7f, encA]
          with_reducible rfl
        · exact trivial
        simp only [onT, onTB]

        cases H1
        refine ⟨_, rfl, by simp only [lzA] <;> omega, ?_, ?_, ?_⟩
        · simp only [ids2A, ids2B, ids2C, reduceIte, Nat.reduceEqDiff, Nat.reduceAdd, Nat.reduceLT, Nat.reduceLeDiff, idsA, idsB, h1, h5, h6]
        · simp only [ids2A, ids2B, ids2C, reduceIte, Nat.reduceEqDiff, Nat.reduceAdd, Nat.reduceLT, Nat.reduceLeDiff, idsA, idsB, h1, h5, h6]
        · exact ⟨(keepT_at (by decide)).trans h1, (keepT_at (by decide)).trans rfl, (by first | rfl | trivial)⟩
      rw [if_pos c7] at H1
      repeat apply TW.seq
      apply TW.region (envs_ok ax) [] []
      · kernel_rfl
      · simp (disch := first | omega | decide | (simp only [lzA, Nat.reduceAdd, Nat.reduceLT]; done) | fail) only [b0, b1, b2, b3, b4, b5, b6, b7, b8, Nat.reduceAdd, Nat.reduceEqDiff, Nat.reduceMul, reduceIte, reduceCtorEq, h5, h6, c3f, c7, encA]
        with_reducible rfl
      · exact trivial
      simp only [onT, onTB]

      cases H1
      refine ⟨_, rfl, by simp only [lzA] <;> omega, ?_, ?_, ?_⟩
      · simp only [ids2A, ids2B, ids2C, reduceIte, Nat.reduceEqDiff, Nat.reduceAdd, Nat.reduceLT, Nat.reduceLeDiff, idsA, idsB, h1, h5, h6]
      · simp only [ids2A, ids2B, ids2C, reduceIte, Nat.reduceEqDiff, Nat.reduceAdd, Nat.reduceLT, Nat.reduceLeDiff, idsA, idsB, h1, h5, h6]
      · exact ⟨(keepT_at (by decide)).trans h1, (keepT_at (by decide)).trans rfl, (by first | rfl | trivial)⟩
    clear h1 h5 h6 h
    rintro h bs ⟨h1, h42, rfl⟩
    simp only [onT, onTB]
    by_cases c8 : s_2 = true
    case neg =>
      rw [if_neg c8] at H
      have c8f := (Bool.not_eq_true _).mp c8
      repeat apply TW.seq
      refine TW.cond (b := false) ?_ ?_
      · simp only [eT_tmp, eT_const, kT_bool, h42, c3f, c8f, Bool.not_true, Bool.not_false]
      simp only [cond_true, cond_false]
      repeat apply TW.seq
      apply TW.skip
      simp only [onT, onTB]
      repeat apply TW.seq
      apply TW.region (envs_ok ax) [] []
      · kernel_rfl
      · simp (disch := first | omega | decide | (simp only [lzA, Nat.reduceAdd, Nat.reduceLT]; done) | fail) only [b0, b1, b2, b3, b4, b5, b6, b7, b8, Nat.reduceAdd, Nat.reduceEqDiff, Nat.reduceMul, reduceIte, reduceCtorEq, c3f, c8f, encA]
        with_reducible rfl
      · exact trivial
      simp only [onT, onTB]
      refine TW.gen (bs := [.cells true 3 [lNodes n.nodes, lLinks n.links, lEdges n.edges]]) (fun h => h 1 = .ptr 0 0 3 ∧ h 7 = .int .i64 0) ?_ ?_ ?_
      · rfl
      · exact ⟨h1, rfl⟩
      clear h1 h42 h
      rintro h ⟨h1, h7⟩
      obtain ⟨o3, H1, H⟩ := bsome H
      repeat apply TW.seq
      refine TW.cutN [1] 1 (by simp only [lzA] <;> omega) (fun h bs => ∃ s_3 : Unit, o3 = .inr s_3 ∧ h 1 = .ptr 0 0 3 ∧ bs = [.cells true 3 [lNodes n.nodes, lLinks n.links, lEdges n.edges]]) ?_ ?_
      · skip
        repeat apply TW.seq
        apply TW.block
        repeat apply TW.seq
        refine TW.loopT [1, 7] (fun m h bs => ∃ (i : Int), sr09_Check_L0 k n m i = some o3 ∧ h 1 = .ptr 0 0 3 ∧ h 7 = .int .i64 i ∧ bs = [.cells true 3 [lNodes n.nodes, lLinks n.links, lEdges n.edges]]) ?_ k _ _ ?_
        rotate_left
        · exact ⟨0, H1, (by first | exact h1 | (rw [h1]; rfl)), (by first | exact h7 | (rw [h7]; rfl)), rfl⟩
        clear h1 h7 h
        clear H1
        rintro m h bs ⟨i, H1, h1, h7, rfl⟩
        rcases m with _ | m
        · rw [sr09_Check_L0] at H1; cases H1
        rw [sr09_Check_L0] at H1
        repeat apply TW.seq
        apply TW.region (envs_ok ax) [] []
        · kernel_rfl
        · simp (disch := first | omega | decide | (simp only [lzA, Nat.reduceAdd, Nat.reduceLT]; done) | fail) only [b0, b1, b2, b3, b4, b5, b6, b7, b8, Nat.reduceAdd, Nat.reduceEqDiff, Nat.reduceMul, reduceIte, reduceCtorEq, h7, h1, c3f, c8f, fa26_0, ti22 ax, encA]
          with_reducible rfl
        · exact trivial
        simp only [onT, onTB]
        refine TW.gen (bs := [.cells true 3 [lNodes n.nodes, lLinks n.links, lEdges n.edges]]) (fun h => h 1 = .ptr 0 0 3 ∧ h 7 = .int .i64 i ∧ h 47 = .bool (decide (i < (n.nodes.length : Int)))) ?_ ?_ ?_
        · rfl
        · exact ⟨h1, h7, rfl⟩
        clear h1 h7 h
        rintro h ⟨h1, h7, h47⟩
        by_cases c9 : i < (n.nodes.length : Int)
        case neg =>
          rw [if_neg c9] at H1
          repeat apply TW.seq
          refine TW.cond (b := false) ?_ ?_
          · simp only [eT_tmp, eT_const, kT_bool, h47, c3f, c8f, decide_eq_false c9, Bool.not_true, Bool.not_false]
          simp only [cond_true, cond_false]
          apply TW.exit
          simp (disch := decide) only [onT, onTB, Nat.beq_refl, beq_no, cond_true, cond_false]
          cases H1
          refine ⟨_, rfl, by simp only [lzA] <;> omega, ?_, ?_, ?_⟩
          · simp only [ids2A, ids2B, ids2C, reduceIte, Nat.reduceEqDiff, Nat.reduceAdd, Nat.reduceLT, Nat.reduceLeDiff, idsA, idsB, h1, h7, h47]
          · simp only [ids2A, ids2B, ids2C, reduceIte, Nat.reduceEqDiff, Nat.reduceAdd, Nat.reduceLT, Nat.reduceLeDiff, idsA, idsB, h1, h7, h47]
          · exact ⟨_, rfl, (keepT_at (by decide)).trans (by first | exact h1 | (rw [h1]; rfl)), (by first | rfl | trivial)⟩
        rw [if_pos c9] at H1
        repeat apply TW.seq
        refine TW.cond (b := true) ?_ ?_
        · simp only [eT_tmp, eT_const, kT_bool, h47, c3f, c8f, decide_eq_true c9, Bool.not_true, Bool.not_false]
        simp only [cond_true, cond_false]
        repeat apply TW.seq
        apply TW.skip
        simp only [onT, onTB]
        repeat apply TW.seq
        apply TW.block
        by_cases g10 : (0 : Int) ≤ i ∧ i < (n.nodes.length : Int)
        case neg => rw [if_neg g10] at H1; cases H1
        rw [if_pos g10] at H1
        repeat apply TW.seq
        apply TW.region (envs_ok ax) [] []
        · kernel_rfl
        · simp (disch := first | omega | decide | (simp only [lzA, Nat.reduceAdd, Nat.reduceLT]; done) | fail) only [b0, b1, b2, b3, b4, b5, b6, b7, b8, Nat.reduceAdd, Nat.reduceEqDiff, Nat.reduceMul, reduceIte, reduceCtorEq, h1, h7, c3f, c8f, decide_eq_true c9, gx_some g10, fa26_0, ti22 ax, ti98 ax, encA]
          with_reducible rfl
        · exact trivial
        simp only [onT, onTB]
        refine TW.gen (bs := [.cells true 3 [lNodes n.nodes, lLinks n.links, lEdges n.edges], .cells true 4 [.str ((gx n.nodes i).name), .bool ((gx n.nodes i).box), .int .i64 ((gx n.nodes i).rules), .int .i64 ((gx n.nodes i).entries)]]) (fun h => h 1 = .ptr 0 0 3 ∧ h 7 = .int .i64 i ∧ h 8 = .ptr 1 0 4) ?_ ?_ ?_
        · rfl
        · exact ⟨h1, h7, rfl⟩
        clear h1 h7 h47 h
        rintro h ⟨h1, h7, h8⟩
        by_cases c11 : ((gx n.nodes i).rules) < 0
        case neg =>
          rw [if_neg c11] at H1
          by_cases c12 : 4000 < ((gx n.nodes i).rules)
          case neg =>
            rw [if_neg c12] at H1
            by_cases c13 : ((gx n.nodes i).entries) < 0
            case neg =>
              rw [if_neg c13] at H1
              repeat apply TW.seq
              apply TW.region (envs_ok ax) [] []
              · kernel_rfl
              · simp (maxSteps := 900000) (disch := first | omega | decide | (simp only [lzA, Nat.reduceAdd, Nat.reduceLT]; done) | fail) only [b0, b1, b2, b3, b4, b5, b6, b7, b8, Nat.reduceAdd, Nat.reduceEqDiff, Nat.reduceMul, reduceIte, reduceCtorEq, h8, c3f, c8f, decide_eq_true c9, decide_eq_false c11, decide_eq_false c12, decide_eq_false c13, fa98_2, fa98_3, ti3 ax, encA]
                with_reducible rfl
              · exact trivial
              simp only [onT, onTB]
              refine TW.gen (bs := [.cells true 3 [lNodes n.nodes, lLinks n.links, lEdges n.edges], .cells true 4 [.str ((gx n.nodes i).name), .bool ((gx n.nodes i).box), .int .i64 ((gx n.nodes i).rules), .int .i64 ((gx n.nodes i).entries)]]) (fun h => h 1 = .ptr 0 0 3 ∧ h 7 = .int .i64 i ∧ h 72 = .bool (decide (100000 < ((gx n.nodes i).entries)))) ?_ ?_ ?_
              · rfl
              · exact ⟨h1, h7, rfl⟩
              clear h1 h7 h8 h
              rintro h ⟨h1, h7, h72⟩
              by_cases c14 : 100000 < ((gx n.nodes i).entries)
              case neg =>
                rw [if_neg c14] at H1
                repeat apply TW.seq
                refine TW.cond (b := false) ?_ ?_
                · simp only [eT_tmp, eT_const, kT_bool, h72, c3f, c8f, decide_eq_true c9, decide_eq_false c11, decide_eq_false c12, decide_eq_false c13, decide_eq_false c14, Bool.not_true, Bool.not_false]
                simp only [cond_true, cond_false]
                repeat apply TW.seq
                apply TW.skip
                simp only [onT, onTB]
                repeat apply TW.seq
                apply TW.region (envs_ok ax) [] []
                · kernel_rfl
                · simp (disch := first | omega | decide | (simp only [lzA, Nat.reduceAdd, Nat.reduceLT]; done) | fail) only [b0, b1, b2, b3, b4, b5, b6, b7, b8, Nat.reduceAdd, Nat.reduceEqDiff, Nat.reduceMul, reduceIte, reduceCtorEq, h7, c3f, c8f, decide_eq_true c9, decide_eq_false c11, decide_eq_false c12, decide_eq_false c13, decide_eq_false c14, encA]
                  with_reducible rfl
                · exact trivial
                simp only [onT, onTB]

                refine ⟨m, by omega, _, rfl, by simp only [lzA] <;> omega, ?_, ?_, ?_⟩
                · simp only [ids2A, ids2B, ids2C, reduceIte, Nat.reduceEqDiff, Nat.reduceAdd, Nat.reduceLT, Nat.reduceLeDiff, idsA, idsB, h1, h7, h72]
                · simp only [ids2A, ids2B, ids2C, reduceIte, Nat.reduceEqDiff, Nat.reduceAdd, Nat.reduceLT, Nat.reduceLeDiff, idsA, idsB, h1, h7, h72]
                · exact ⟨(IntKind.i64.wrap (i + 1)), H1, (keepT_at (by decide)).trans h1, (keepT_at (by decide)).trans rfl, (by first | rfl | trivial)⟩
              rw [if_pos c14] at H1
              repeat apply TW.seq
              refine TW.cond (b := true) ?_ ?_
              · simp only [eT_tmp, eT_const, kT_bool, h72, c3f, c8f, decide_eq_true c9, decide_eq_false c11, decide_eq_false c12, decide_eq_false c13, decide_eq_true c14, Bool.not_true, Bool.not_false]
              simp only [cond_true, cond_false]
              repeat apply TW.seq
              apply TW.region (envs_ok ax) [] []
              · kernel_rfl
              · simp (disch := first | omega | decide | (simp only [lzA, Nat.reduceAdd, Nat.reduceLT]; done) | fail) only [b0, b1, b2, b3, b4, b5, b6, b7, b8, Nat.reduceAdd, Nat.reduceEqDiff, Nat.reduceMul, reduceIte, reduceCtorEq, c3f, c8f, decide_eq_true c9, decide_eq_false c11, decide_eq_false c12, decide_eq_false c13, decide_eq_true c14, encA]
                with_reducible rfl
              · exact trivial
              simp only [onT, onTB]
              refine TW.gen (bs := [.cells true 3 [lNodes n.nodes, lLinks n.links, lEdges n.edges], .cells true 4 [.str ((gx n.nodes i).name), .bool ((gx n.nodes i).box), .int .i64 ((gx n.nodes i).rules), .int .i64 ((gx n.nodes i).entries)]]) (fun h => h 2 = .int .i64 1) ?_ ?_ ?_
              · rfl
              · exact rfl
              clear h1 h7 h72 h
              rintro h h2
              apply TW.ret
              cases H1
              rw [Sum.elim_inl] at H
              cases H
              refine ⟨.inr rfl, ?_⟩
              first | (simp only [Try.results32, resT, h2]; done) | (simp only [Try.results32, resT, h2]; rfl)
            rw [if_pos c13] at H1
            repeat apply TW.seq
            apply TW.region (envs_ok ax) [] []
            · kernel_rfl
            · simp (maxSteps := 900000) (disch := first | omega | decide | (simp only [lzA, Nat.reduceAdd, Nat.reduceLT]; done) | fail) only [b0, b1, b2, b3, b4, b5, b6, b7, b8, Nat.reduceAdd, Nat.reduceEqDiff, Nat.reduceMul, reduceIte, reduceCtorEq, h8, c3f, c8f, decide_eq_true c9, decide_eq_false c11, decide_eq_false c12, decide_eq_true c13, fa98_2, fa98_3, ti3 ax, encA]
              with_reducible rfl
            · exact trivial
            simp only [onT, onTB]
            refine TW.gen (bs := [.cells true 3 [lNodes n.nodes, lLinks n.links, lEdges n.edges], .cells true 4 [.str ((gx n.nodes i).name), .bool ((gx n.nodes i).box), .int .i64 ((gx n.nodes i).rules), .int .i64 ((gx n.nodes i).entries)]]) (fun h => h 1 = .ptr 0 0 3 ∧ h 7 = .int .i64 i ∧ h 72 = .bool true) ?_ ?_ ?_
            · rfl
            · exact ⟨h1, h7, rfl⟩
            clear h1 h7 h8 h
            rintro h ⟨h1, h7, h72⟩
            repeat apply TW.seq
            refine TW.cond (b := true) ?_ ?_
            · simp only [eT_tmp, eT_const, kT_bool, h72, c3f, c8f, decide_eq_true c9, decide_eq_false c11, decide_eq_false c12, decide_eq_true c13, Bool.not_true, Bool.not_false]
            simp only [cond_true, cond_false]
            repeat apply TW.seq
            apply TW.region (envs_ok ax) [] []
            · kernel_rfl
            · simp (disch := first | omega | decide | (simp only [lzA, Nat.reduceAdd, Nat.reduceLT]; done) | fail) only [b0, b1, b2, b3, b4, b5, b6, b7, b8, Nat.reduceAdd, Nat.reduceEqDiff, Nat.reduceMul, reduceIte, reduceCtorEq, c3f, c8f, decide_eq_true c9, decide_eq_false c11, decide_eq_false c12, decide_eq_true c13, encA]
              with_reducible rfl
            · exact trivial
            simp only [onT, onTB]
            refine TW.gen (bs := [.cells true 3 [lNodes n.nodes, lLinks n.links, lEdges n.edges], .cells true 4 [.str ((gx n.nodes i).name), .bool ((gx n.nodes i).box), .int .i64 ((gx n.nodes i).rules), .int .i64 ((gx n.nodes i).entries)]]) (fun h => h 2 = .int .i64 1) ?_ ?_ ?_
            · rfl
            · exact rfl
            clear h1 h7 h72 h
            rintro h h2
            apply TW.ret
            cases H1
            rw [Sum.elim_inl] at H
            cases H
            refine ⟨.inr rfl, ?_⟩
            first | (simp only [Try.results32, resT, h2]; done) | (simp only [Try.results32, resT, h2]; rfl)
          rw [if_pos c12] at H1
          repeat apply TW.seq
          apply TW.region (envs_ok ax) [] []
          · kernel_rfl
          · simp (maxSteps := 900000) (disch := first | omega | decide | (simp only [lzA, Nat.reduceAdd, Nat.reduceLT]; done) | fail) only [b0, b1, b2, b3, b4, b5, b6, b7, b8, Nat.reduceAdd, Nat.reduceEqDiff, Nat.reduceMul, reduceIte, reduceCtorEq, h8, c3f, c8f, decide_eq_true c9, decide_eq_false c11, decide_eq_true c12, fa98_2, ti3 ax, encA]
            with_reducible rfl
          · exact trivial
          simp only [onT, onTB]
          refine TW.gen (bs := [.cells true 3 [lNodes n.nodes, lLinks n.links, lEdges n.edges], .cells true 4 [.str ((gx n.nodes i).name), .bool ((gx n.nodes i).box), .int .i64 ((gx n.nodes i).rules), .int .i64 ((gx n.nodes i).entries)]]) (fun h => h 1 = .ptr 0 0 3 ∧ h 7 = .int .i64 i ∧ h 72 = .bool true) ?_ ?_ ?_
          · rfl
          · exact ⟨h1, h7, rfl⟩
          clear h1 h7 h8 h
          rintro h ⟨h1, h7, h72⟩
          repeat apply TW.seq
          refine TW.cond (b := true) ?_ ?_
          · simp only [eT_tmp, eT_const, kT_bool, h72, c3f, c8f, decide_eq_true c9, decide_eq_false c11, decide_eq_true c12, Bool.not_true, Bool.not_false]
          simp only [cond_true, cond_false]
          repeat apply TW.seq
          apply TW.region (envs_ok ax) [] []
          · kernel_rfl
          · simp (disch := first | omega | decide | (simp only [lzA, Nat.reduceAdd, Nat.reduceLT]; done) | fail) only [b0, b1, b2, b3, b4, b5, b6, b7, b8, Nat.reduceAdd, Nat.reduceEqDiff, Nat.reduceMul, reduceIte, reduceCtorEq, c3f, c8f, decide_eq_true c9, decide_eq_false c11, decide_eq_true c12, encA]
            with_reducible rfl
          · exact trivial
          simp only [onT, onTB]
          refine TW.gen (bs := [.cells true 3 [lNodes n.nodes, lLinks n.links, lEdges n.edges], .cells true 4 [.str ((gx n.nodes i).name), .bool ((gx n.nodes i).box), .int .i64 ((gx n.nodes i).rules), .int .i64 ((gx n.nodes i).entries)]]) (fun h => h 2 = .int .i64 1) ?_ ?_ ?_
          · rfl
          · exact rfl
          clear h1 h7 h72 h
          rintro h h2
          apply TW.ret
          cases H1
          rw [Sum.elim_inl] at H
          cases H
          refine ⟨.inr rfl, ?_⟩
          first | (simp only [Try.results32, resT, h2]; done) | (simp only [Try.results32, resT, h2]; rfl)
        rw [if_pos c11] at H1
        repeat apply TW.seq
        apply TW.region (envs_ok ax) [] []
        · kernel_rfl
        · simp (maxSteps := 900000) (disch := first | omega | decide | (simp only [lzA, Nat.reduceAdd, Nat.reduceLT]; done) | fail) only [b0, b1, b2, b3, b4, b5, b6, b7, b8, Nat.reduceAdd, Nat.reduceEqDiff, Nat.reduceMul, reduceIte, reduceCtorEq, h8, c3f, c8f, decide_eq_true c9, decide_eq_true c11, fa98_2, ti3 ax, encA]
          with_reducible rfl
        · exact trivial
        simp only [onT, onTB]
        refine TW.gen (bs := [.cells true 3 [lNodes n.nodes, lLinks n.links, lEdges n.edges], .cells true 4 [.str ((gx n.nodes i).name), .bool ((gx n.nodes i).box), .int .i64 ((gx n.nodes i).rules), .int .i64 ((gx n.nodes i).entries)]]) (fun h => h 1 = .ptr 0 0 3 ∧ h 7 = .int .i64 i ∧ h 72 = .bool true) ?_ ?_ ?_
        · rfl
        · exact ⟨h1, h7, rfl⟩
        clear h1 h7 h8 h
        rintro h ⟨h1, h7, h72⟩
        repeat apply TW.seq
        refine TW.cond (b := true) ?_ ?_
        · simp only [eT_tmp, eT_const, kT_bool, h72, c3f, c8f, decide_eq_true c9, decide_eq_true c11, Bool.not_true, Bool.not_false]
        simp only [cond_true, cond_false]
        repeat apply TW.seq
        apply TW.region (envs_ok ax) [] []
        · kernel_rfl
        · simp (disch := first | omega | decide | (simp only [lzA, Nat.reduceAdd, Nat.reduceLT]; done) | fail) only [b0, b1, b2, b3, b4, b5, b6, b7, b8, Nat.reduceAdd, Nat.reduceEqDiff, Nat.reduceMul, reduceIte, reduceCtorEq, c3f, c8f, decide_eq_true c9, decide_eq_true c11, encA]
          with_reducible rfl
        · exact trivial
        simp only [onT, onTB]
        refine TW.gen (bs := [.cells true 3 [lNodes n.nodes, lLinks n.links, lEdges n.edges], .cells true 4 [.str ((gx n.nodes i).name), .bool ((gx n.nodes i).box), .int .i64 ((gx n.nodes i).rules), .int .i64 ((gx n.nodes i).entries)]]) (fun h => h 2 = .int .i64 1) ?_ ?_ ?_
        · rfl
        · exact rfl
        clear h1 h7 h72 h
        rintro h h2
        apply TW.ret
        cases H1
        rw [Sum.elim_inl] at H
        cases H
        refine ⟨.inr rfl, ?_⟩
        first | (simp only [Try.results32, resT, h2]; done) | (simp only [Try.results32, resT, h2]; rfl)
      clear h1 h7 h
      rintro h bs ⟨s_3, rfl, h1, rfl⟩
      rw [Sum.elim_inr] at H
      simp only [onT, onTB]
      repeat apply TW.seq
      apply TW.region (envs_ok ax) [] []
      · kernel_rfl
      · simp (disch := first | omega | decide | (simp only [lzA, Nat.reduceAdd, Nat.reduceLT]; done) | fail) only [b0, b1, b2, b3, b4, b5, b6, b7, b8, Nat.reduceAdd, Nat.reduceEqDiff, Nat.reduceMul, reduceIte, reduceCtorEq, c3f, c8f, encA]
        with_reducible rfl
      · exact trivial
      simp only [onT, onTB]
      refine TW.gen (bs := [.cells true 3 [lNodes n.nodes, lLinks n.links, lEdges n.edges]]) (fun h => h 1 = .ptr 0 0 3 ∧ h 9 = .int .i64 0) ?_ ?_ ?_
      · rfl
      · exact ⟨h1, rfl⟩
      clear h1 h
      rintro h ⟨h1, h9⟩
      obtain ⟨o2, H1, H⟩ := bsome H
      repeat apply TW.seq
      refine TW.cutN [1] 1 (by simp only [lzA] <;> omega) (fun h bs => ∃ s_4 : Unit, o2 = .inr s_4 ∧ h 1 = .ptr 0 0 3 ∧ bs = [.cells true 3 [lNodes n.nodes, lLinks n.links, lEdges n.edges]]) ?_ ?_
      · skip
        repeat apply TW.seq
        apply TW.block
        repeat apply TW.seq
        refine TW.loopT [1, 9] (fun m h bs => ∃ (i2 : Int), sr09_Check_L1 k n m i2 = some o2 ∧ h 1 = .ptr 0 0 3 ∧ h 9 = .int .i64 i2 ∧ bs = [.cells true 3 [lNodes n.nodes, lLinks n.links, lEdges n.edges]]) ?_ k _ _ ?_
        rotate_left
        · exact ⟨0, H1, (by first | exact h1 | (rw [h1]; rfl)), (by first | exact h9 | (rw [h9]; rfl)), rfl⟩
        clear h1 h9 h
        clear H1
        rintro m h bs ⟨i2, H1, h1, h9, rfl⟩
        rcases m with _ | m
        · rw [sr09_Check_L1] at H1; cases H1
        rw [sr09_Check_L1] at H1
        repeat apply TW.seq
        apply TW.region (envs_ok ax) [] []
        · kernel_rfl
        · simp (disch := first | omega | decide | (simp only [lzA, Nat.reduceAdd, Nat.reduceLT]; done) | fail) only [b0, b1, b2, b3, b4, b5, b6, b7, b8, Nat.reduceAdd, Nat.reduceEqDiff, Nat.reduceMul, reduceIte, reduceCtorEq, h9, h1, c3f, c8f, fa26_1, ti23 ax, encA]
          with_reducible rfl
        · exact trivial
        simp only [onT, onTB]
        refine TW.gen (bs := [.cells true 3 [lNodes n.nodes, lLinks n.links, lEdges n.edges]]) (fun h => h 1 = .ptr 0 0 3 ∧ h 9 = .int .i64 i2 ∧ h 77 = .bool (decide (i2 < (n.links.length : Int)))) ?_ ?_ ?_
        · rfl
        · exact ⟨h1, h9, rfl⟩
        clear h1 h9 h
        rintro h ⟨h1, h9, h77⟩
        by_cases c15 : i2 < (n.links.length : Int)
        case neg =>
          rw [if_neg c15] at H1
          repeat apply TW.seq
          refine TW.cond (b := false) ?_ ?_
          · simp only [eT_tmp, eT_const, kT_bool, h77, c3f, c8f, decide_eq_false c15, Bool.not_true, Bool.not_false]
          simp only [cond_true, cond_false]
          apply TW.exit
          simp (disch := decide) only [onT, onTB, Nat.beq_refl, beq_no, cond_true, cond_false]
          cases H1
          refine ⟨_, rfl, by simp only [lzA] <;> omega, ?_, ?_, ?_⟩
          · simp only [ids2A, ids2B, ids2C, reduceIte, Nat.reduceEqDiff, Nat.reduceAdd, Nat.reduceLT, Nat.reduceLeDiff, idsA, idsB, h1, h9, h77]
          · simp only [ids2A, ids2B, ids2C, reduceIte, Nat.reduceEqDiff, Nat.reduceAdd, Nat.reduceLT, Nat.reduceLeDiff, idsA, idsB, h1, h9, h77]
          · exact ⟨_, rfl, (keepT_at (by decide)).trans (by first | exact h1 | (rw [h1]; rfl)), (by first | rfl | trivial)⟩
        rw [if_pos c15] at H1
        repeat apply TW.seq
        refine TW.cond (b := true) ?_ ?_
        · simp only [eT_tmp, eT_const, kT_bool, h77, c3f, c8f, decide_eq_true c15, Bool.not_true, Bool.not_false]
        simp only [cond_true, cond_false]
        repeat apply TW.seq
        apply TW.skip
        simp only [onT, onTB]
        repeat apply TW.seq
        apply TW.block
        by_cases g16 : (0 : Int) ≤ i2 ∧ i2 < (n.links.length : Int)
        case neg => rw [if_neg g16] at H1; cases H1
        rw [if_pos g16] at H1
        repeat apply TW.seq
        apply TW.region (envs_ok ax) [] []
        · kernel_rfl
        · simp (disch := first | omega | decide | (simp only [lzA, Nat.reduceAdd, Nat.reduceLT]; done) | fail) only [b0, b1, b2, b3, b4, b5, b6, b7, b8, Nat.reduceAdd, Nat.reduceEqDiff, Nat.reduceMul, reduceIte, reduceCtorEq, h1, h9, c3f, c8f, decide_eq_true c15, gx_some g16, fa26_1, ti23 ax, ti51 ax, encA]
          with_reducible rfl
        · exact trivial
        simp only [onT, onTB]
        refine TW.gen (bs := [.cells true 3 [lNodes n.nodes, lLinks n.links, lEdges n.edges], .cells true 3 [.int .i64 ((gx n.links i2).frm), .int .i64 ((gx n.links i2).to), .int .i64 ((gx n.links i2).cap)]]) (fun h => h 1 = .ptr 0 0 3 ∧ h 9 = .int .i64 i2 ∧ h 10 = .ptr 1 0 3) ?_ ?_ ?_
        · rfl
        · exact ⟨h1, h9, rfl⟩
        clear h1 h9 h77 h
        rintro h ⟨h1, h9, h10⟩
        obtain ⟨risNode, e17, H1⟩ := bsome H1
        by_cases c18 : risNode = true
        case neg =>
          rw [if_neg c18] at H1
          have c18f := (Bool.not_eq_true _).mp c18
          repeat apply TW.seq
          apply TW.region (envs_ok ax) [] [(.bool risNode, stL [.cells true 3 [lNodes n.nodes, lLinks n.links, lEdges n.edges], .cells true 3 [.int .i64 ((gx n.links i2).frm), .int .i64 ((gx n.links i2).to), .int .i64 ((gx n.links i2).cap)]])]
          · kernel_rfl
          · simp (maxSteps := 900000) (disch := first | omega | decide | (simp only [lzA, Nat.reduceAdd, Nat.reduceLT]; done) | fail) only [b0, b1, b2, b3, b4, b5, b6, b7, b8, Nat.reduceAdd, Nat.reduceEqDiff, Nat.reduceMul, reduceIte, reduceCtorEq, h1, h10, c3f, c8f, decide_eq_true c15, c18f, fa51_0, ti26 ax, ti3 ax, encA]
            with_reducible rfl
          · exact ⟨(by have q := Call0.call ((sr09_isNode_ok ax hx k n ((gx n.links i2).frm) risNode e17 ).call (stL [.cells true 3 [lNodes n.nodes, lLinks n.links, lEdges n.edges], .cells true 3 [.int .i64 ((gx n.links i2).frm), .int .i64 ((gx n.links i2).to), .int .i64 ((gx n.links i2).cap)]])); (try simp only [c3f, c8f, c18f] at q); exact q), trivial⟩
          simp only [onT, onTB]
          refine TW.gen (bs := [.cells true 3 [lNodes n.nodes, lLinks n.links, lEdges n.edges], .cells true 3 [.int .i64 ((gx n.links i2).frm), .int .i64 ((gx n.links i2).to), .int .i64 ((gx n.links i2).cap)]]) (fun h => h 1 = .ptr 0 0 3 ∧ h 9 = .int .i64 i2 ∧ h 113 = .bool true) ?_ ?_ ?_
          · rfl
          · exact ⟨h1, h9, rfl⟩
          clear h1 h9 h10 h
          rintro h ⟨h1, h9, h113⟩
          repeat apply TW.seq
          refine TW.cond (b := true) ?_ ?_
          · simp only [eT_tmp, eT_const, kT_bool, h113, c3f, c8f, decide_eq_true c15, c18f, Bool.not_true, Bool.not_false]
          simp only [cond_true, cond_false]
          repeat apply TW.seq
          apply TW.region (envs_ok ax) [] []
          · kernel_rfl
          · simp (disch := first | omega | decide | (simp only [lzA, Nat.reduceAdd, Nat.reduceLT]; done) | fail) only [b0, b1, b2, b3, b4, b5, b6, b7, b8, Nat.reduceAdd, Nat.reduceEqDiff, Nat.reduceMul, reduceIte, reduceCtorEq, c3f, c8f, decide_eq_true c15, c18f, encA]
            with_reducible rfl
          · exact trivial
          simp only [onT, onTB]
          refine TW.gen (bs := [.cells true 3 [lNodes n.nodes, lLinks n.links, lEdges n.edges], .cells true 3 [.int .i64 ((gx n.links i2).frm), .int .i64 ((gx n.links i2).to), .int .i64 ((gx n.links i2).cap)]]) (fun h => h 2 = .int .i64 1) ?_ ?_ ?_
          · rfl
          · exact rfl
          clear h1 h9 h113 h
          rintro h h2
          apply TW.ret
          cases H1
          rw [Sum.elim_inl] at H
          cases H
          refine ⟨.inr rfl, ?_⟩
          first | (simp only [Try.results32, resT, h2]; done) | (simp only [Try.results32, resT, h2]; rfl)
        rw [if_pos c18] at H1
        obtain ⟨risNode2, e19, H1⟩ := bsome H1
        by_cases c20 : risNode2 = true
        case neg =>
          rw [if_neg c20] at H1
          have c20f := (Bool.not_eq_true _).mp c20
          repeat apply TW.seq
          apply TW.region (envs_ok ax) [] [(.bool risNode, stL [.cells true 3 [lNodes n.nodes, lLinks n.links, lEdges n.edges], .cells true 3 [.int .i64 ((gx n.links i2).frm), .int .i64 ((gx n.links i2).to), .int .i64 ((gx n.links i2).cap)]]), (.bool risNode2, stL [.cells true 3 [lNodes n.nodes, lLinks n.links, lEdges n.edges], .cells true 3 [.int .i64 ((gx n.links i2).frm), .int .i64 ((gx n.links i2).to), .int .i64 ((gx n.links i2).cap)]])]
          · kernel_rfl
          · simp (maxSteps := 900000) (disch := first | omega | decide | (simp only [lzA, Nat.reduceAdd, Nat.reduceLT]; done) | fail) only [b0, b1, b2, b3, b4, b5, b6, b7, b8, Nat.reduceAdd, Nat.reduceEqDiff, Nat.reduceMul, reduceIte, reduceCtorEq, h1, h10, c3f, c8f, decide_eq_true c15, c18, c20f, fa51_0, fa51_1, ti26 ax, ti3 ax, encA]
            with_reducible rfl
          · exact ⟨(by have q := Call0.call ((sr09_isNode_ok ax hx k n ((gx n.links i2).frm) risNode e17 ).call (stL [.cells true 3 [lNodes n.nodes, lLinks n.links, lEdges n.edges], .cells true 3 [.int .i64 ((gx n.links i2).frm), .int .i64 ((gx n.links i2).to), .int .i64 ((gx n.links i2).cap)]])); (try simp only [c3f, c8f, c18, c20f] at q); exact q), (by have q := Call0.call ((sr09_isNode_ok ax hx k n ((gx n.links i2).to) risNode2 e19 ).call (stL [.cells true 3 [lNodes n.nodes, lLinks n.links, lEdges n.edges], .cells true 3 [.int .i64 ((gx n.links i2).frm), .int .i64 ((gx n.links i2).to), .int .i64 ((gx n.links i2).cap)]])); (try simp only [c3f, c8f, c18, c20f] at q); exact q), trivial⟩
          simp only [onT, onTB]
          refine TW.gen (bs := [.cells true 3 [lNodes n.nodes, lLinks n.links, lEdges n.edges], .cells true 3 [.int .i64 ((gx n.links i2).frm), .int .i64 ((gx n.links i2).to), .int .i64 ((gx n.links i2).cap)]]) (fun h => h 1 = .ptr 0 0 3 ∧ h 9 = .int .i64 i2 ∧ h 113 = .bool true) ?_ ?_ ?_
          · rfl
          · exact ⟨h1, h9, rfl⟩
          clear h1 h9 h10 h
          rintro h ⟨h1, h9, h113⟩
          repeat apply TW.seq
          refine TW.cond (b := true) ?_ ?_
          · simp only [eT_tmp, eT_const, kT_bool, h113, c3f, c8f, decide_eq_true c15, c18, c20f, Bool.not_true, Bool.not_false]
          simp only [cond_true, cond_false]
          repeat apply TW.seq
          apply TW.region (envs_ok ax) [] []
          · kernel_rfl
          · simp (disch := first | omega | decide | (simp only [lzA, Nat.reduceAdd, Nat.reduceLT]; done) | fail) only [b0, b1, b2, b3, b4, b5, b6, b7, b8, Nat.reduceAdd, Nat.reduceEqDiff, Nat.reduceMul, reduceIte, reduceCtorEq, c3f, c8f, decide_eq_true c15, c18, c20f, encA]
            with_reducible rfl
          · exact trivial
          simp only [onT, onTB]
          refine TW.gen (bs := [.cells true 3 [lNodes n.nodes, lLinks n.links, lEdges n.edges], .cells true 3 [.int .i64 ((gx n.links i2).frm), .int .i64 ((gx n.links i2).to), .int .i64 ((gx n.links i2).cap)]]) (fun h => h 2 = .int .i64 1) ?_ ?_ ?_
          · rfl
          · exact rfl
          clear h1 h9 h113 h
          rintro h h2
          apply TW.ret
          cases H1
          rw [Sum.elim_inl] at H
          cases H
          refine ⟨.inr rfl, ?_⟩
          first | (simp only [Try.results32, resT, h2]; done) | (simp only [Try.results32, resT, h2]; rfl)
        rw [if_pos c20] at H1
        by_cases c21 : ((gx n.links i2).frm) = ((gx n.links i2).to)
        case neg =>
          rw [if_neg c21] at H1
          by_cases c22 : ((gx n.links i2).cap) < 0
          case neg =>
            rw [if_neg c22] at H1
            repeat apply TW.seq
            apply TW.region (envs_ok ax) [] [(.bool risNode, stL [.cells true 3 [lNodes n.nodes, lLinks n.links, lEdges n.edges], .cells true 3 [.int .i64 ((gx n.links i2).frm), .int .i64 ((gx n.links i2).to), .int .i64 ((gx n.links i2).cap)]]), (.bool risNode2, stL [.cells true 3 [lNodes n.nodes, lLinks n.links, lEdges n.edges], .cells true 3 [.int .i64 ((gx n.links i2).frm), .int .i64 ((gx n.links i2).to), .int .i64 ((gx n.links i2).cap)]])]
            · kernel_rfl
            · simp (maxSteps := 900000) (disch := first | omega | decide | (simp only [lzA, Nat.reduceAdd, Nat.reduceLT]; done) | fail) only [b0, b1, b2, b3, b4, b5, b6, b7, b8, Nat.reduceAdd, Nat.reduceEqDiff, Nat.reduceMul, reduceIte, reduceCtorEq, h1, h10, c3f, c8f, decide_eq_true c15, c18, c20, decide_eq_false c21, decide_eq_false c22, fa51_0, fa51_1, fa51_2, ti26 ax, ti3 ax, encA]
              with_reducible rfl
            · exact ⟨(by have q := Call0.call ((sr09_isNode_ok ax hx k n ((gx n.links i2).frm) risNode e17 ).call (stL [.cells true 3 [lNodes n.nodes, lLinks n.links, lEdges n.edges], .cells true 3 [.int .i64 ((gx n.links i2).frm), .int .i64 ((gx n.links i2).to), .int .i64 ((gx n.links i2).cap)]])); (try simp only [c3f, c8f, c18, c20] at q); exact q), (by have q := Call0.call ((sr09_isNode_ok ax hx k n ((gx n.links i2).to) risNode2 e19 ).call (stL [.cells true 3 [lNodes n.nodes, lLinks n.links, lEdges n.edges], .cells true 3 [.int .i64 ((gx n.links i2).frm), .int .i64 ((gx n.links i2).to), .int .i64 ((gx n.links i2).cap)]])); (try simp only [c3f, c8f, c18, c20] at q); exact q), trivial⟩
            simp only [onT, onTB]
            refine TW.gen (bs := [.cells true 3 [lNodes n.nodes, lLinks n.links, lEdges n.edges], .cells true 3 [.int .i64 ((gx n.links i2).frm), .int .i64 ((gx n.links i2).to), .int .i64 ((gx n.links i2).cap)]]) (fun h => h 1 = .ptr 0 0 3 ∧ h 9 = .int .i64 i2 ∧ h 113 = .bool (decide (1048576 < ((gx n.links i2).cap)))) ?_ ?_ ?_
            · rfl
            · exact ⟨h1, h9, rfl⟩
            clear h1 h9 h10 h
            rintro h ⟨h1, h9, h113⟩
            by_cases c23 : 1048576 < ((gx n.links i2).cap)
            case neg =>
              rw [if_neg c23] at H1
              repeat apply TW.seq
              refine TW.cond (b := false) ?_ ?_
              · simp only [eT_tmp, eT_const, kT_bool, h113, c3f, c8f, decide_eq_true c15, c18, c20, decide_eq_false c21, decide_eq_false c22, decide_eq_false c23, Bool.not_true, Bool.not_false]
              simp only [cond_true, cond_false]
              repeat apply TW.seq
              apply TW.skip
              simp only [onT, onTB]
              repeat apply TW.seq
              apply TW.region (envs_ok ax) [] []
              · kernel_rfl
              · simp (disch := first | omega | decide | (simp only [lzA, Nat.reduceAdd, Nat.reduceLT]; done) | fail) only [b0, b1, b2, b3, b4, b5, b6, b7, b8, Nat.reduceAdd, Nat.reduceEqDiff, Nat.reduceMul, reduceIte, reduceCtorEq, h9, c3f, c8f, decide_eq_true c15, c18, c20, decide_eq_false c21, decide_eq_false c22, decide_eq_false c23, encA]
                with_reducible rfl
              · exact trivial
              simp only [onT, onTB]

              refine ⟨m, by omega, _, rfl, by simp only [lzA] <;> omega, ?_, ?_, ?_⟩
              · simp only [ids2A, ids2B, ids2C, reduceIte, Nat.reduceEqDiff, Nat.reduceAdd, Nat.reduceLT, Nat.reduceLeDiff, idsA, idsB, h1, h9, h113]
              · simp only [ids2A, ids2B, ids2C, reduceIte, Nat.reduceEqDiff, Nat.reduceAdd, Nat.reduceLT, Nat.reduceLeDiff, idsA, idsB, h1, h9, h113]
              · exact ⟨(IntKind.i64.wrap (i2 + 1)), H1, (keepT_at (by decide)).trans h1, (keepT_at (by decide)).trans rfl, (by first | rfl | trivial)⟩
            rw [if_pos c23] at H1
            repeat apply TW.seq
            refine TW.cond (b := true) ?_ ?_
            · simp only [eT_tmp, eT_const, kT_bool, h113, c3f, c8f, decide_eq_true c15, c18, c20, decide_eq_false c21, decide_eq_false c22, decide_eq_true c23, Bool.not_true, Bool.not_false]
            simp only [cond_true, cond_false]
            repeat apply TW.seq
            apply TW.region (envs_ok ax) [] []
            · kernel_rfl
            · simp (disch := first | omega | decide | (simp only [lzA, Nat.reduceAdd, Nat.reduceLT]; done) | fail) only [b0, b1, b2, b3, b4, b5, b6, b7, b8, Nat.reduceAdd, Nat.reduceEqDiff, Nat.reduceMul, reduceIte, reduceCtorEq, c3f, c8f, decide_eq_true c15, c18, c20, decide_eq_false c21, decide_eq_false c22, decide_eq_true c23, encA]
              with_reducible rfl
            · exact trivial
            simp only [onT, onTB]
            refine TW.gen (bs := [.cells true 3 [lNodes n.nodes, lLinks n.links, lEdges n.edges], .cells true 3 [.int .i64 ((gx n.links i2).frm), .int .i64 ((gx n.links i2).to), .int .i64 ((gx n.links i2).cap)]]) (fun h => h 2 = .int .i64 1) ?_ ?_ ?_
            · rfl
            · exact rfl
            clear h1 h9 h113 h
            rintro h h2
            apply TW.ret
            cases H1
            rw [Sum.elim_inl] at H
            cases H
            refine ⟨.inr rfl, ?_⟩
            first | (simp only [Try.results32, resT, h2]; done) | (simp only [Try.results32, resT, h2]; rfl)
          rw [if_pos c22] at H1
          repeat apply TW.seq
          apply TW.region (envs_ok ax) [] [(.bool risNode, stL [.cells true 3 [lNodes n.nodes, lLinks n.links, lEdges n.edges], .cells true 3 [.int .i64 ((gx n.links i2).frm), .int .i64 ((gx n.links i2).to), .int .i64 ((gx n.links i2).cap)]]), (.bool risNode2, stL [.cells true 3 [lNodes n.nodes, lLinks n.links, lEdges n.edges], .cells true 3 [.int .i64 ((gx n.links i2).frm), .int .i64 ((gx n.links i2).to), .int .i64 ((gx n.links i2).cap)]])]
          · kernel_rfl
          · simp (maxSteps := 900000) (disch := first | omega | decide | (simp only [lzA, Nat.reduceAdd, Nat.reduceLT]; done) | fail) only [b0, b1, b2, b3, b4, b5, b6, b7, b8, Nat.reduceAdd, Nat.reduceEqDiff, Nat.reduceMul, reduceIte, reduceCtorEq, h1, h10, c3f, c8f, decide_eq_true c15, c18, c20, decide_eq_false c21, decide_eq_true c22, fa51_0, fa51_1, fa51_2, ti26 ax, ti3 ax, encA]
            with_reducible rfl
          · exact ⟨(by have q := Call0.call ((sr09_isNode_ok ax hx k n ((gx n.links i2).frm) risNode e17 ).call (stL [.cells true 3 [lNodes n.nodes, lLinks n.links, lEdges n.edges], .cells true 3 [.int .i64 ((gx n.links i2).frm), .int .i64 ((gx n.links i2).to), .int .i64 ((gx n.links i2).cap)]])); (try simp only [c3f, c8f, c18, c20] at q); exact q), (by have q := Call0.call ((sr09_isNode_ok ax hx k n ((gx n.links i2).to) risNode2 e19 ).call (stL [.cells true 3 [lNodes n.nodes, lLinks n.links, lEdges n.edges], .cells true 3 [.int .i64 ((gx n.links i2).frm), .int .i64 ((gx n.links i2).to), .int .i64 ((gx n.links i2).cap)]])); (try simp only [c3f, c8f, c18, c20] at q); exact q), trivial⟩
          simp only [onT, onTB]
          refine TW.gen (bs := [.cells true 3 [lNodes n.nodes, lLinks n.links, lEdges n.edges], .cells true 3 [.int .i64 ((gx n.links i2).frm), .int .i64 ((gx n.links i2).to), .int .i64 ((gx n.links i2).cap)]]) (fun h => h 1 = .ptr 0 0 3 ∧ h 9 = .int .i64 i2 ∧ h 113 = .bool true) ?_ ?_ ?_
          · rfl
          · exact ⟨h1, h9, rfl⟩
          clear h1 h9 h10 h
          rintro h ⟨h1, h9, h113⟩
          repeat apply TW.seq
          refine TW.cond (b := true) ?_ ?_
          · simp only [eT_tmp, eT_const, kT_bool, h113, c3f, c8f, decide_eq_true c15, c18, c20, decide_eq_false c21, decide_eq_true c22, Bool.not_true, Bool.not_false]
          simp only [cond_true, cond_false]
          repeat apply TW.seq
          apply TW.region (envs_ok ax) [] []
          · kernel_rfl
          · simp (disch := first | omega | decide | (simp only [lzA, Nat.reduceAdd, Nat.reduceLT]; done) | fail) only [b0, b1, b2, b3, b4, b5, b6, b7, b8, Nat.reduceAdd, Nat.reduceEqDiff, Nat.reduceMul, reduceIte, reduceCtorEq, c3f, c8f, decide_eq_true c15, c18, c20, decide_eq_false c21, decide_eq_true c22, encA]
            with_reducible rfl
          · exact trivial
          simp only [onT, onTB]
          refine TW.gen (bs := [.cells true 3 [lNodes n.nodes, lLinks n.links, lEdges n.edges], .cells true 3 [.int .i64 ((gx n.links i2).frm), .int .i64 ((gx n.links i2).to), .int .i64 ((gx n.links i2).cap)]]) (fun h => h 2 = .int .i64 1) ?_ ?_ ?_
          · rfl
          · exact rfl
          clear h1 h9 h113 h
          rintro h h2
          apply TW.ret
          cases H1
          rw [Sum.elim_inl] at H
          cases H
          refine ⟨.inr rfl, ?_⟩
          first | (simp only [Try.results32, resT, h2]; done) | (simp only [Try.results32, resT, h2]; rfl)
        rw [if_pos c21] at H1
        repeat apply TW.seq
        apply TW.region (envs_ok ax) [] [(.bool risNode, stL [.cells true 3 [lNodes n.nodes, lLinks n.links, lEdges n.edges], .cells true 3 [.int .i64 ((gx n.links i2).frm), .int .i64 ((gx n.links i2).to), .int .i64 ((gx n.links i2).cap)]]), (.bool risNode2, stL [.cells true 3 [lNodes n.nodes, lLinks n.links, lEdges n.edges], .cells true 3 [.int .i64 ((gx n.links i2).frm), .int .i64 ((gx n.links i2).to), .int .i64 ((gx n.links i2).cap)]])]
        · kernel_rfl
        · simp (maxSteps := 900000) (disch := first | omega | decide | (simp only [lzA, Nat.reduceAdd, Nat.reduceLT]; done) | fail) only [b0, b1, b2, b3, b4, b5, b6, b7, b8, Nat.reduceAdd, Nat.reduceEqDiff, Nat.reduceMul, reduceIte, reduceCtorEq, h1, h10, c3f, c8f, decide_eq_true c15, c18, c20, decide_eq_true c21, fa51_0, fa51_1, ti26 ax, ti3 ax, encA]
          with_reducible rfl
        · exact ⟨(by have q := Call0.call ((sr09_isNode_ok ax hx k n ((gx n.links i2).frm) risNode e17 ).call (stL [.cells true 3 [lNodes n.nodes, lLinks n.links, lEdges n.edges], .cells true 3 [.int .i64 ((gx n.links i2).frm), .int .i64 ((gx n.links i2).to), .int .i64 ((gx n.links i2).cap)]])); (try simp only [c3f, c8f, c18, c20] at q); exact q), (by have q := Call0.call ((sr09_isNode_ok ax hx k n ((gx n.links i2).to) risNode2 e19 ).call (stL [.cells true 3 [lNodes n.nodes, lLinks n.links, lEdges n.edges], .cells true 3 [.int .i64 ((gx n.links i2).frm), .int .i64 ((gx n.links i2).to), .int .i64 ((gx n.links i2).cap)]])); (try simp only [c3f, c8f, c18, c20] at q); exact q), trivial⟩
        simp only [onT, onTB]
        refine TW.gen (bs := [.cells true 3 [lNodes n.nodes, lLinks n.links, lEdges n.edges], .cells true 3 [.int .i64 ((gx n.links i2).frm), .int .i64 ((gx n.links i2).to), .int .i64 ((gx n.links i2).cap)]]) (fun h => h 1 = .ptr 0 0 3 ∧ h 9 = .int .i64 i2 ∧ h 113 = .bool true) ?_ ?_ ?_
        · rfl
        · exact ⟨h1, h9, rfl⟩
        clear h1 h9 h10 h
        rintro h ⟨h1, h9, h113⟩
        repeat apply TW.seq
        refine TW.cond (b := true) ?_ ?_
        · simp only [eT_tmp, eT_const, kT_bool, h113, c3f, c8f, decide_eq_true c15, c18, c20, decide_eq_true c21, Bool.not_true, Bool.not_false]
        simp only [cond_true, cond_false]
        repeat apply TW.seq
        apply TW.region (envs_ok ax) [] []
        · kernel_rfl
        · simp (disch := first | omega | decide | (simp only [lzA, Nat.reduceAdd, Nat.reduceLT]; done) | fail) only [b0, b1, b2, b3, b4, b5, b6, b7, b8, Nat.reduceAdd, Nat.reduceEqDiff, Nat.reduceMul, reduceIte, reduceCtorEq, c3f, c8f, decide_eq_true c15, c18, c20, decide_eq_true c21, encA]
          with_reducible rfl
        · exact trivial
        simp only [onT, onTB]
        refine TW.gen (bs := [.cells true 3 [lNodes n.nodes, lLinks n.links, lEdges n.edges], .cells true 3 [.int .i64 ((gx n.links i2).frm), .int .i64 ((gx n.links i2).to), .int .i64 ((gx n.links i2).cap)]]) (fun h => h 2 = .int .i64 1) ?_ ?_ ?_
        · rfl
        · exact rfl
        clear h1 h9 h113 h
        rintro h h2
        apply TW.ret
        cases H1
        rw [Sum.elim_inl] at H
        cases H
        refine ⟨.inr rfl, ?_⟩
        first | (simp only [Try.results32, resT, h2]; done) | (simp only [Try.results32, resT, h2]; rfl)
      clear h1 h9 h
      rintro h bs ⟨s_4, rfl, h1, rfl⟩
      rw [Sum.elim_inr] at H
      simp only [onT, onTB]
      repeat apply TW.seq
      apply TW.region (envs_ok ax) [] []
      · kernel_rfl
      · simp (disch := first | omega | decide | (simp only [lzA, Nat.reduceAdd, Nat.reduceLT]; done) | fail) only [b0, b1, b2, b3, b4, b5, b6, b7, b8, Nat.reduceAdd, Nat.reduceEqDiff, Nat.reduceMul, reduceIte, reduceCtorEq, c3f, c8f, encA]
        with_reducible rfl
      · exact trivial
      simp only [onT, onTB]
      refine TW.gen (bs := [.cells true 3 [lNodes n.nodes, lLinks n.links, lEdges n.edges]]) (fun h => h 1 = .ptr 0 0 3 ∧ h 11 = .int .i64 0) ?_ ?_ ?_
      · rfl
      · exact ⟨h1, rfl⟩
      clear h1 h
      rintro h ⟨h1, h11⟩
      obtain ⟨o, H1, H⟩ := bsome H
      repeat apply TW.seq
      refine TW.cutN [] 1 (by simp only [lzA] <;> omega) (fun h bs => ∃ s_5 : Unit, o = .inr s_5 ∧ bs = [.cells true 3 [lNodes n.nodes, lLinks n.links, lEdges n.edges]]) ?_ ?_
      · skip
        repeat apply TW.seq
        apply TW.block
        repeat apply TW.seq
        refine TW.loopT [1, 11] (fun m h bs => ∃ (i3 : Int), sr09_Check_L2 k n m i3 = some o ∧ h 1 = .ptr 0 0 3 ∧ h 11 = .int .i64 i3 ∧ bs = [.cells true 3 [lNodes n.nodes, lLinks n.links, lEdges n.edges]]) ?_ k _ _ ?_
        rotate_left
        · exact ⟨0, H1, (by first | exact h1 | (rw [h1]; rfl)), (by first | exact h11 | (rw [h11]; rfl)), rfl⟩
        clear h1 h11 h
        clear H1
        rintro m h bs ⟨i3, H1, h1, h11, rfl⟩
        rcases m with _ | m
        · rw [sr09_Check_L2] at H1; cases H1
        rw [sr09_Check_L2] at H1
        repeat apply TW.seq
        apply TW.region (envs_ok ax) [] []
        · kernel_rfl
        · simp (disch := first | omega | decide | (simp only [lzA, Nat.reduceAdd, Nat.reduceLT]; done) | fail) only [b0, b1, b2, b3, b4, b5, b6, b7, b8, Nat.reduceAdd, Nat.reduceEqDiff, Nat.reduceMul, reduceIte, reduceCtorEq, h11, h1, c3f, c8f, fa26_2, ti24 ax, encA]
          with_reducible rfl
        · exact trivial
        simp only [onT, onTB]
        refine TW.gen (bs := [.cells true 3 [lNodes n.nodes, lLinks n.links, lEdges n.edges]]) (fun h => h 1 = .ptr 0 0 3 ∧ h 11 = .int .i64 i3 ∧ h 118 = .bool (decide (i3 < (n.edges.length : Int)))) ?_ ?_ ?_
        · rfl
        · exact ⟨h1, h11, rfl⟩
        clear h1 h11 h
        rintro h ⟨h1, h11, h118⟩
        by_cases c24 : i3 < (n.edges.length : Int)
        case neg =>
          rw [if_neg c24] at H1
          repeat apply TW.seq
          refine TW.cond (b := false) ?_ ?_
          · simp only [eT_tmp, eT_const, kT_bool, h118, c3f, c8f, decide_eq_false c24, Bool.not_true, Bool.not_false]
          simp only [cond_true, cond_false]
          apply TW.exit
          simp (disch := decide) only [onT, onTB, Nat.beq_refl, beq_no, cond_true, cond_false]
          cases H1
          refine ⟨_, rfl, by simp only [lzA] <;> omega, ?_, ?_, ?_⟩
          · simp only [ids2A, ids2B, ids2C, reduceIte, Nat.reduceEqDiff, Nat.reduceAdd, Nat.reduceLT, Nat.reduceLeDiff, idsA, idsB, h1, h11, h118]
          · simp only [ids2A, ids2B, ids2C, reduceIte, Nat.reduceEqDiff, Nat.reduceAdd, Nat.reduceLT, Nat.reduceLeDiff, idsA, idsB, h1, h11, h118]
          · exact ⟨_, rfl, (by first | rfl | trivial)⟩
        rw [if_pos c24] at H1
        repeat apply TW.seq
        refine TW.cond (b := true) ?_ ?_
        · simp only [eT_tmp, eT_const, kT_bool, h118, c3f, c8f, decide_eq_true c24, Bool.not_true, Bool.not_false]
        simp only [cond_true, cond_false]
        repeat apply TW.seq
        apply TW.skip
        simp only [onT, onTB]
        repeat apply TW.seq
        apply TW.block
        by_cases g25 : (0 : Int) ≤ i3 ∧ i3 < (n.edges.length : Int)
        case neg => rw [if_neg g25] at H1; cases H1
        rw [if_pos g25] at H1
        obtain ⟨risNode3, e26, H1⟩ := bsome H1
        repeat apply TW.seq
        apply TW.draw (envs_ok ax) 7 [] [] [(.bool risNode3, stL [.cells true 3 [lNodes n.nodes, lLinks n.links, lEdges n.edges]])]
        · kernel_rfl
        · kernel_rfl
        · simp (disch := first | omega | decide | (simp only [lzA, Nat.reduceAdd, Nat.reduceLT]; done) | fail) only [b0, b1, b2, b3, b4, b5, b6, b7, b8, Nat.reduceAdd, Nat.reduceEqDiff, Nat.reduceMul, reduceIte, reduceCtorEq, h1, h11, c3f, c8f, decide_eq_true c24, gx_some g25, fa26_2, fc100_1, ti100 ax, ti24 ax, ti26 ax, ti3 ax, encA]
          with_reducible rfl
        · exact trivial
        · simp (disch := first | omega | decide | (simp only [lzA, Nat.reduceAdd, Nat.reduceLT]; done) | fail) only [b0, b1, b2, b3, b4, b5, b6, b7, b8, Nat.reduceAdd, Nat.reduceEqDiff, Nat.reduceMul, reduceIte, reduceCtorEq, h1, h11, c3f, c8f, decide_eq_true c24, gx_some g25, fa26_2, fc100_1, ti100 ax, ti24 ax, ti26 ax, ti3 ax, encA]
          with_reducible rfl
        · exact ⟨(by have q := Call0.call ((sr09_isNode_ok ax hx k n ((gx n.edges i3).node) risNode3 e26 ).call (stL [.cells true 3 [lNodes n.nodes, lLinks n.links, lEdges n.edges]])); (try simp only [c3f, c8f] at q); exact q), trivial⟩
        simp only [onT, onTB]
        refine TW.gen (bs := [.cells true 3 [lNodes n.nodes, lLinks n.links, lEdges n.edges]]) (fun h => h 1 = .ptr 0 0 3 ∧ h 11 = .int .i64 i3 ∧ h 129 = .bool (!risNode3)) ?_ ?_ ?_
        · rfl
        · exact ⟨h1, h11, rfl⟩
        clear h1 h11 h118 h
        rintro h ⟨h1, h11, h129⟩
        by_cases c27 : risNode3 = true
        case neg =>
          rw [if_neg c27] at H1
          have c27f := (Bool.not_eq_true _).mp c27
          repeat apply TW.seq
          refine TW.cond (b := true) ?_ ?_
          · simp only [eT_tmp, eT_const, kT_bool, h129, c3f, c8f, decide_eq_true c24, c27f, Bool.not_true, Bool.not_false]
          simp only [cond_true, cond_false]
          repeat apply TW.seq
          apply TW.region (envs_ok ax) [] []
          · kernel_rfl
          · simp (disch := first | omega | decide | (simp only [lzA, Nat.reduceAdd, Nat.reduceLT]; done) | fail) only [b0, b1, b2, b3, b4, b5, b6, b7, b8, Nat.reduceAdd, Nat.reduceEqDiff, Nat.reduceMul, reduceIte, reduceCtorEq, c3f, c8f, decide_eq_true c24, c27f, encA]
            with_reducible rfl
          · exact trivial
          simp only [onT, onTB]
          refine TW.gen (bs := [.cells true 3 [lNodes n.nodes, lLinks n.links, lEdges n.edges]]) (fun h => h 2 = .int .i64 1) ?_ ?_ ?_
          · rfl
          · exact rfl
          clear h1 h11 h129 h
          rintro h h2
          apply TW.ret
          cases H1
          rw [Sum.elim_inl] at H
          cases H
          refine ⟨.inr rfl, ?_⟩
          first | (simp only [Try.results32, resT, h2]; done) | (simp only [Try.results32, resT, h2]; rfl)
        rw [if_pos c27] at H1
        repeat apply TW.seq
        refine TW.cond (b := false) ?_ ?_
        · simp only [eT_tmp, eT_const, kT_bool, h129, c3f, c8f, decide_eq_true c24, c27, Bool.not_true, Bool.not_false]
        simp only [cond_true, cond_false]
        repeat apply TW.seq
        apply TW.skip
        simp only [onT, onTB]
        repeat apply TW.seq
        apply TW.region (envs_ok ax) [] []
        · kernel_rfl
        · simp (disch := first | omega | decide | (simp only [lzA, Nat.reduceAdd, Nat.reduceLT]; done) | fail) only [b0, b1, b2, b3, b4, b5, b6, b7, b8, Nat.reduceAdd, Nat.reduceEqDiff, Nat.reduceMul, reduceIte, reduceCtorEq, h11, c3f, c8f, decide_eq_true c24, c27, encA]
          with_reducible rfl
        · exact trivial
        simp only [onT, onTB]

        refine ⟨m, by omega, _, rfl, by simp only [lzA] <;> omega, ?_, ?_, ?_⟩
        · simp only [ids2A, ids2B, ids2C, reduceIte, Nat.reduceEqDiff, Nat.reduceAdd, Nat.reduceLT, Nat.reduceLeDiff, idsA, idsB, h1, h11, h129]
        · simp only [ids2A, ids2B, ids2C, reduceIte, Nat.reduceEqDiff, Nat.reduceAdd, Nat.reduceLT, Nat.reduceLeDiff, idsA, idsB, h1, h11, h129]
        · exact ⟨(IntKind.i64.wrap (i3 + 1)), H1, (keepT_at (by decide)).trans h1, (keepT_at (by decide)).trans rfl, (by first | rfl | trivial)⟩
      clear h1 h11 h
      rintro h bs ⟨s_5, rfl, rfl⟩
      rw [Sum.elim_inr] at H
      simp only [onT, onTB]
      repeat apply TW.seq
      apply TW.region (envs_ok ax) [] []
      · kernel_rfl
      · simp (disch := first | omega | decide | (simp only [lzA, Nat.reduceAdd, Nat.reduceLT]; done) | fail) only [b0, b1, b2, b3, b4, b5, b6, b7, b8, Nat.reduceAdd, Nat.reduceEqDiff, Nat.reduceMul, reduceIte, reduceCtorEq, c3f, c8f, encA]
        with_reducible rfl
      · exact trivial
      simp only [onT, onTB]
      refine TW.gen (bs := [.cells true 3 [lNodes n.nodes, lLinks n.links, lEdges n.edges]]) (fun h => h 2 = .int .i64 0) ?_ ?_ ?_
      · rfl
      · exact rfl
      clear  h
      rintro h h2
      apply TW.ret
      cases H
      refine ⟨.inr rfl, ?_⟩
      first | (simp only [Try.results32, resT, h2]; done) | (simp only [Try.results32, resT, h2]; rfl)
    rw [if_pos c8] at H
    repeat apply TW.seq
    refine TW.cond (b := true) ?_ ?_
    · simp only [eT_tmp, eT_const, kT_bool, h42, c3f, c8, Bool.not_true, Bool.not_false]
    simp only [cond_true, cond_false]
    repeat apply TW.seq
    apply TW.region (envs_ok ax) [] []
    · kernel_rfl
    · simp (disch := first | omega | decide | (simp only [lzA, Nat.reduceAdd, Nat.reduceLT]; done) | fail) only [b0, b1, b2, b3, b4, b5, b6, b7, b8, Nat.reduceAdd, Nat.reduceEqDiff, Nat.reduceMul, reduceIte, reduceCtorEq, c3f, c8, encA]
      with_reducible rfl
    · exact trivial
    simp only [onT, onTB]
    refine TW.gen (bs := [.cells true 3 [lNodes n.nodes, lLinks n.links, lEdges n.edges]]) (fun h => h 2 = .int .i64 4) ?_ ?_ ?_
    · rfl
    · exact rfl
    clear h1 h42 h
    rintro h h2
    apply TW.ret
    cases H
    refine ⟨.inr rfl, ?_⟩
    first | (simp only [Try.results32, resT, h2]; done) | (simp only [Try.results32, resT, h2]; rfl)
  rw [if_pos c3] at H
  repeat apply TW.seq
  refine TW.cond (b := true) ?_ ?_
  · simp only [eT_tmp, eT_const, kT_bool, h27, c3, Bool.not_true, Bool.not_false]
  simp only [cond_true, cond_false]
  repeat apply TW.seq
  apply TW.region (envs_ok ax) [] []
  · kernel_rfl
  · simp (disch := first | omega | decide | (simp only [lzA, Nat.reduceAdd, Nat.reduceLT]; done) | fail) only [b0, b1, b2, b3, b4, b5, b6, b7, b8, Nat.reduceAdd, Nat.reduceEqDiff, Nat.reduceMul, reduceIte, reduceCtorEq, c3, encA]
    with_reducible rfl
  · exact trivial
  simp only [onT, onTB]
  refine TW.gen (bs := [.cells true 3 [lNodes n.nodes, lLinks n.links, lEdges n.edges]]) (fun h => h 2 = .int .i64 2) ?_ ?_ ?_
  · rfl
  · exact rfl
  clear h1 h27 h
  rintro h h2
  apply TW.ret
  cases H
  refine ⟨.inr rfl, ?_⟩
  first | (simp only [Try.results32, resT, h2]; done) | (simp only [Try.results32, resT, h2]; rfl)
def sr09_CheckFailure_L0 (k : Nat) (n : Net) (f_ : Failure) : Nat → Int → Option (Int ⊕ Unit)
  | 0, _ => none
  | m + 1, i => (if i < (f_.links.length : Int) then (if (0 : Int) ≤ i ∧ i < (f_.links.length : Int) then (if (gx f_.links i) < 0 then some (.inl 1) else (if (n.links.length : Int) ≤ (gx f_.links i) then some (.inl 1) else (if 0 < i then (if (0 : Int) ≤ (IntKind.i64.wrap (i - 1)) ∧ (IntKind.i64.wrap (i - 1)) < (f_.links.length : Int) then (if (gx f_.links i) ≤ (gx f_.links (IntKind.i64.wrap (i - 1))) then some (.inl 1) else sr09_CheckFailure_L0 k n f_ m (IntKind.i64.wrap (i + 1))) else none) else sr09_CheckFailure_L0 k n f_ m (IntKind.i64.wrap (i + 1))))) else none) else some (.inr ()))
def sr09_CheckFailure (k : Nat) (n : Net) (f_ : Failure) : Option Int := ((sr09_CheckFailure_L0 k n f_ k 0 : Option (Int ⊕ Unit)).bind fun o => Sum.elim (fun r => some r) (fun s_ => (if f_.node ≠ (-1) then ((sr09_isNode k n f_.node).bind fun risNode => (if risNode = true then some 0 else some 1)) else some 0)) o)
set_option maxHeartbeats 8000000 in
theorem sr09_CheckFailure_ok (ax : Axs) (hx : Plain ax) (k : Nat) (n : Net) (f_ : Failure) (v : Int) (H : sr09_CheckFailure k n f_ = some v) : Pure Try.prog (EE ax) [] 33 [eNet n, eFail f_] (.int .i64 v) := by
  rw [sr09_CheckFailure] at H
  refine Pure.enter (fn := Try.f33) 58 (hx.no _ (by decide)) (fn33 ax) rfl Try.ntmps33 (by decide) (by simp) (by simp only [ids2B, ids2C, idsA, idsB, Bool.and_self]) (by first | rfl | simp only [ids2B, ids2C, idsA, idsB, Bool.and_self] | simp only [tupT, ids2B, ids2C, idsA, idsB, Bool.and_self]) ?_
  simp only [argT_cons, argT_nil, Nat.reduceAdd]
  refine TW.gen (bs := []) (fun h => h 0 = eNet n ∧ h 1 = eFail f_) rfl ?_ ?_
  · exact ⟨rfl, rfl⟩
  rintro h ⟨h0, h1⟩
  repeat apply TW.seq
  apply TW.region (envs_ok ax) [] []
  · kernel_rfl
  · simp (disch := first | omega | decide | (simp only [lzA, Nat.reduceAdd, Nat.reduceLT]; done) | fail) only [b0, b1, b2, b3, b4, b5, b6, b7, b8, Nat.reduceAdd, Nat.reduceEqDiff, Nat.reduceMul, reduceIte, reduceCtorEq, h0, h1, encA]
    with_reducible rfl
  · exact trivial
  simp only [onT, onTB]
  refine TW.gen (bs := [.cells true 3 [lNodes n.nodes, lLinks n.links, lEdges n.edges], .cells true 2 [ints f_.links, .int .i64 f_.node]]) (fun h => h 2 = .ptr 0 0 3 ∧ h 3 = .ptr 1 0 2) ?_ ?_ ?_
  · rfl
  · exact ⟨rfl, rfl⟩
  clear h0 h1 h
  rintro h ⟨h2, h3⟩
  repeat apply TW.seq
  apply TW.region (envs_ok ax) [] []
  · kernel_rfl
  · simp (disch := first | omega | decide | (simp only [lzA, Nat.reduceAdd, Nat.reduceLT]; done) | fail) only [b0, b1, b2, b3, b4, b5, b6, b7, b8, Nat.reduceAdd, Nat.reduceEqDiff, Nat.reduceMul, reduceIte, reduceCtorEq, encA]
    with_reducible rfl
  · exact trivial
  simp only [onT, onTB]
  refine TW.gen (bs := [.cells true 3 [lNodes n.nodes, lLinks n.links, lEdges n.edges], .cells true 2 [ints f_.links, .int .i64 f_.node]]) (fun h => h 2 = .ptr 0 0 3 ∧ h 3 = .ptr 1 0 2 ∧ h 5 = .int .i64 0) ?_ ?_ ?_
  · rfl
  · exact ⟨h2, h3, rfl⟩
  clear h2 h3 h
  rintro h ⟨h2, h3, h5⟩
  obtain ⟨o, H1, H⟩ := bsome H
  repeat apply TW.seq
  refine TW.cutN [2, 3] 2 (by simp only [lzA] <;> omega) (fun h bs => ∃ s_ : Unit, o = .inr s_ ∧ h 2 = .ptr 0 0 3 ∧ h 3 = .ptr 1 0 2 ∧ bs = [.cells true 3 [lNodes n.nodes, lLinks n.links, lEdges n.edges], .cells true 2 [ints f_.links, .int .i64 f_.node]]) ?_ ?_
  · skip
    repeat apply TW.seq
    apply TW.block
    repeat apply TW.seq
    refine TW.loopT [2, 3, 5] (fun m h bs => ∃ (i : Int), sr09_CheckFailure_L0 k n f_ m i = some o ∧ h 2 = .ptr 0 0 3 ∧ h 3 = .ptr 1 0 2 ∧ h 5 = .int .i64 i ∧ bs = [.cells true 3 [lNodes n.nodes, lLinks n.links, lEdges n.edges], .cells true 2 [ints f_.links, .int .i64 f_.node]]) ?_ k _ _ ?_
    rotate_left
    · exact ⟨0, H1, (by first | exact h2 | (rw [h2]; rfl)), (by first | exact h3 | (rw [h3]; rfl)), (by first | exact h5 | (rw [h5]; rfl)), rfl⟩
    clear h2 h3 h5 h
    clear H1
    rintro m h bs ⟨i, H1, h2, h3, h5, rfl⟩
    rcases m with _ | m
    · rw [sr09_CheckFailure_L0] at H1; cases H1
    rw [sr09_CheckFailure_L0] at H1
    repeat apply TW.seq
    apply TW.region (envs_ok ax) [] []
    · kernel_rfl
    · simp (disch := first | omega | decide | (simp only [lzA, Nat.reduceAdd, Nat.reduceLT]; done) | fail) only [b0, b1, b2, b3, b4, b5, b6, b7, b8, Nat.reduceAdd, Nat.reduceEqDiff, Nat.reduceMul, reduceIte, reduceCtorEq, h5, h3, fa29_0, ti27 ax, encA]
      with_reducible rfl
    · exact trivial
    simp only [onT, onTB]
    refine TW.gen (bs := [.cells true 3 [lNodes n.nodes, lLinks n.links, lEdges n.edges], .cells true 2 [ints f_.links, .int .i64 f_.node]]) (fun h => h 2 = .ptr 0 0 3 ∧ h 3 = .ptr 1 0 2 ∧ h 5 = .int .i64 i ∧ h 10 = .bool (decide (i < (f_.links.length : Int)))) ?_ ?_ ?_
    · rfl
    · exact ⟨h2, h3, h5, rfl⟩
    clear h2 h3 h5 h
    rintro h ⟨h2, h3, h5, h10⟩
    by_cases c1 : i < (f_.links.length : Int)
    case neg =>
      rw [if_neg c1] at H1
      repeat apply TW.seq
      refine TW.cond (b := false) ?_ ?_
      · simp only [eT_tmp, eT_const, kT_bool, h10, decide_eq_false c1, Bool.not_true, Bool.not_false]
      simp only [cond_true, cond_false]
      apply TW.exit
      simp (disch := decide) only [onT, onTB, Nat.beq_refl, beq_no, cond_true, cond_false]
      cases H1
      refine ⟨_, rfl, by simp only [lzA] <;> omega, ?_, ?_, ?_⟩
      · simp only [ids2A, ids2B, ids2C, reduceIte, Nat.reduceEqDiff, Nat.reduceAdd, Nat.reduceLT, Nat.reduceLeDiff, idsA, idsB, h2, h3, h5, h10]
      · simp only [ids2A, ids2B, ids2C, reduceIte, Nat.reduceEqDiff, Nat.reduceAdd, Nat.reduceLT, Nat.reduceLeDiff, idsA, idsB, h2, h3, h5, h10]
      · exact ⟨_, rfl, (keepT_at (by decide)).trans (by first | exact h2 | (rw [h2]; rfl)), (keepT_at (by decide)).trans (by first | exact h3 | (rw [h3]; rfl)), (by first | rfl | trivial)⟩
    rw [if_pos c1] at H1
    repeat apply TW.seq
    refine TW.cond (b := true) ?_ ?_
    · simp only [eT_tmp, eT_const, kT_bool, h10, decide_eq_true c1, Bool.not_true, Bool.not_false]
    simp only [cond_true, cond_false]
    repeat apply TW.seq
    apply TW.skip
    simp only [onT, onTB]
    repeat apply TW.seq
    apply TW.block
    by_cases g2 : (0 : Int) ≤ i ∧ i < (f_.links.length : Int)
    case neg => rw [if_neg g2] at H1; cases H1
    rw [if_pos g2] at H1
    by_cases c3 : (gx f_.links i) < 0
    case neg =>
      rw [if_neg c3] at H1
      by_cases c4 : (n.links.length : Int) ≤ (gx f_.links i)
      case neg =>
        rw [if_neg c4] at H1
        by_cases c5 : 0 < i
        case neg =>
          rw [if_neg c5] at H1
          repeat apply TW.seq
          apply TW.draw (envs_ok ax) 32 [] [] []
          · kernel_rfl
          · kernel_rfl
          · simp (maxSteps := 900000) (disch := first | omega | decide | (simp only [lzA, Nat.reduceAdd, Nat.reduceLT]; done) | fail) only [b0, b1, b2, b3, b4, b5, b6, b7, b8, Nat.reduceAdd, Nat.reduceEqDiff, Nat.reduceMul, reduceIte, reduceCtorEq, h3, h5, h2, decide_eq_true c1, decide_eq_false c3, decide_eq_false c4, decide_eq_false c5, gx_some g2, fa26_1, fa29_0, ti23 ax, ti27 ax, ti3 ax, encA]
            with_reducible rfl
          · exact trivial
          · simp (maxSteps := 900000) (disch := first | omega | decide | (simp only [lzA, Nat.reduceAdd, Nat.reduceLT]; done) | fail) only [b0, b1, b2, b3, b4, b5, b6, b7, b8, Nat.reduceAdd, Nat.reduceEqDiff, Nat.reduceMul, reduceIte, reduceCtorEq, h3, h5, h2, decide_eq_true c1, decide_eq_false c3, decide_eq_false c4, decide_eq_false c5, gx_some g2, fa26_1, fa29_0, ti23 ax, ti27 ax, ti3 ax, encA]
            with_reducible rfl
          · exact trivial
          simp only [onT, onTB]
          refine TW.gen (bs := [.cells true 3 [lNodes n.nodes, lLinks n.links, lEdges n.edges], .cells true 2 [ints f_.links, .int .i64 f_.node]]) (fun h => h 2 = .ptr 0 0 3 ∧ h 3 = .ptr 1 0 2 ∧ h 5 = .int .i64 i ∧ h 47 = .bool false) ?_ ?_ ?_
          · rfl
          · exact ⟨h2, h3, h5, rfl⟩
          clear h2 h3 h5 h10 h
          rintro h ⟨h2, h3, h5, h47⟩
          repeat apply TW.seq
          refine TW.cond (b := false) ?_ ?_
          · simp only [eT_tmp, eT_const, kT_bool, h47, decide_eq_true c1, decide_eq_false c3, decide_eq_false c4, decide_eq_false c5, Bool.not_true, Bool.not_false]
          simp only [cond_true, cond_false]
          repeat apply TW.seq
          apply TW.skip
          simp only [onT, onTB]
          repeat apply TW.seq
          apply TW.region (envs_ok ax) [] []
          · kernel_rfl
          · simp (disch := first | omega | decide | (simp only [lzA, Nat.reduceAdd, Nat.reduceLT]; done) | fail) only [b0, b1, b2, b3, b4, b5, b6, b7, b8, Nat.reduceAdd, Nat.reduceEqDiff, Nat.reduceMul, reduceIte, reduceCtorEq, h5, decide_eq_true c1, decide_eq_false c3, decide_eq_false c4, decide_eq_false c5, encA]
            with_reducible rfl
          · exact trivial
          simp only [onT, onTB]

          refine ⟨m, by omega, _, rfl, by simp only [lzA] <;> omega, ?_, ?_, ?_⟩
          · simp only [ids2A, ids2B, ids2C, reduceIte, Nat.reduceEqDiff, Nat.reduceAdd, Nat.reduceLT, Nat.reduceLeDiff, idsA, idsB, h2, h3, h5, h47]
          · simp only [ids2A, ids2B, ids2C, reduceIte, Nat.reduceEqDiff, Nat.reduceAdd, Nat.reduceLT, Nat.reduceLeDiff, idsA, idsB, h2, h3, h5, h47]
          · exact ⟨(IntKind.i64.wrap (i + 1)), H1, (keepT_at (by decide)).trans h2, (keepT_at (by decide)).trans h3, (keepT_at (by decide)).trans rfl, (by first | rfl | trivial)⟩
        rw [if_pos c5] at H1
        by_cases g6 : (0 : Int) ≤ (IntKind.i64.wrap (i - 1)) ∧ (IntKind.i64.wrap (i - 1)) < (f_.links.length : Int)
        case neg => rw [if_neg g6] at H1; cases H1
        rw [if_pos g6] at H1
        repeat apply TW.seq
        apply TW.draw (envs_ok ax) 32 [] [] []
        · kernel_rfl
        · kernel_rfl
        · simp (maxSteps := 900000) (disch := first | omega | decide | (simp only [lzA, Nat.reduceAdd, Nat.reduceLT]; done) | fail) only [b0, b1, b2, b3, b4, b5, b6, b7, b8, Nat.reduceAdd, Nat.reduceEqDiff, Nat.reduceMul, reduceIte, reduceCtorEq, h3, h5, h2, decide_eq_true c1, decide_eq_false c3, decide_eq_false c4, decide_eq_true c5, gx_some g2, gx_some g6, fa26_1, fa29_0, ti23 ax, ti27 ax, ti3 ax, encA]
          with_reducible rfl
        · exact trivial
        · simp (maxSteps := 900000) (disch := first | omega | decide | (simp only [lzA, Nat.reduceAdd, Nat.reduceLT]; done) | fail) only [b0, b1, b2, b3, b4, b5, b6, b7, b8, Nat.reduceAdd, Nat.reduceEqDiff, Nat.reduceMul, reduceIte, reduceCtorEq, h3, h5, h2, decide_eq_true c1, decide_eq_false c3, decide_eq_false c4, decide_eq_true c5, gx_some g2, gx_some g6, fa26_1, fa29_0, ti23 ax, ti27 ax, ti3 ax, encA]
          with_reducible rfl
        · exact trivial
        simp only [onT, onTB]
        refine TW.gen (bs := [.cells true 3 [lNodes n.nodes, lLinks n.links, lEdges n.edges], .cells true 2 [ints f_.links, .int .i64 f_.node]]) (fun h => h 2 = .ptr 0 0 3 ∧ h 3 = .ptr 1 0 2 ∧ h 5 = .int .i64 i ∧ h 47 = .bool (decide ((gx f_.links i) ≤ (gx f_.links (IntKind.i64.wrap (i - 1)))))) ?_ ?_ ?_
        · rfl
        · exact ⟨h2, h3, h5, rfl⟩
        clear h2 h3 h5 h10 h
        rintro h ⟨h2, h3, h5, h47⟩
        by_cases c7 : (gx f_.links i) ≤ (gx f_.links (IntKind.i64.wrap (i - 1)))
        case neg =>
          rw [if_neg c7] at H1
          repeat apply TW.seq
          refine TW.cond (b := false) ?_ ?_
          · simp only [eT_tmp, eT_const, kT_bool, h47, decide_eq_true c1, decide_eq_false c3, decide_eq_false c4, decide_eq_true c5, decide_eq_false c7, Bool.not_true, Bool.not_false]
          simp only [cond_true, cond_false]
          repeat apply TW.seq
          apply TW.skip
          simp only [onT, onTB]
          repeat apply TW.seq
          apply TW.region (envs_ok ax) [] []
          · kernel_rfl
          · simp (disch := first | omega | decide | (simp only [lzA, Nat.reduceAdd, Nat.reduceLT]; done) | fail) only [b0, b1, b2, b3, b4, b5, b6, b7, b8, Nat.reduceAdd, Nat.reduceEqDiff, Nat.reduceMul, reduceIte, reduceCtorEq, h5, decide_eq_true c1, decide_eq_false c3, decide_eq_false c4, decide_eq_true c5, decide_eq_false c7, encA]
            with_reducible rfl
          · exact trivial
          simp only [onT, onTB]

          refine ⟨m, by omega, _, rfl, by simp only [lzA] <;> omega, ?_, ?_, ?_⟩
          · simp only [ids2A, ids2B, ids2C, reduceIte, Nat.reduceEqDiff, Nat.reduceAdd, Nat.reduceLT, Nat.reduceLeDiff, idsA, idsB, h2, h3, h5, h47]
          · simp only [ids2A, ids2B, ids2C, reduceIte, Nat.reduceEqDiff, Nat.reduceAdd, Nat.reduceLT, Nat.reduceLeDiff, idsA, idsB, h2, h3, h5, h47]
          · exact ⟨(IntKind.i64.wrap (i + 1)), H1, (keepT_at (by decide)).trans h2, (keepT_at (by decide)).trans h3, (keepT_at (by decide)).trans rfl, (by first | rfl | trivial)⟩
        rw [if_pos c7] at H1
        repeat apply TW.seq
        refine TW.cond (b := true) ?_ ?_
        · simp only [eT_tmp, eT_const, kT_bool, h47, decide_eq_true c1, decide_eq_false c3, decide_eq_false c4, decide_eq_true c5, decide_eq_true c7, Bool.not_true, Bool.not_false]
        simp only [cond_true, cond_false]
        repeat apply TW.seq
        apply TW.region (envs_ok ax) [] []
        · kernel_rfl
        · simp (disch := first | omega | decide | (simp only [lzA, Nat.reduceAdd, Nat.reduceLT]; done) | fail) only [b0, b1, b2, b3, b4, b5, b6, b7, b8, Nat.reduceAdd, Nat.reduceEqDiff, Nat.reduceMul, reduceIte, reduceCtorEq, decide_eq_true c1, decide_eq_false c3, decide_eq_false c4, decide_eq_true c5, decide_eq_true c7, encA]
          with_reducible rfl
        · exact trivial
        simp only [onT, onTB]
        refine TW.gen (bs := [.cells true 3 [lNodes n.nodes, lLinks n.links, lEdges n.edges], .cells true 2 [ints f_.links, .int .i64 f_.node]]) (fun h => h 4 = .int .i64 1) ?_ ?_ ?_
        · rfl
        · exact rfl
        clear h2 h3 h5 h47 h
        rintro h h4
        apply TW.ret
        cases H1
        rw [Sum.elim_inl] at H
        cases H
        refine ⟨.inr rfl, ?_⟩
        first | (simp only [Try.results33, resT, h4]; done) | (simp only [Try.results33, resT, h4]; rfl)
      rw [if_pos c4] at H1
      repeat apply TW.seq
      apply TW.draw (envs_ok ax) 32 [] [] []
      · kernel_rfl
      · kernel_rfl
      · simp (maxSteps := 900000) (disch := first | omega | decide | (simp only [lzA, Nat.reduceAdd, Nat.reduceLT]; done) | fail) only [b0, b1, b2, b3, b4, b5, b6, b7, b8, Nat.reduceAdd, Nat.reduceEqDiff, Nat.reduceMul, reduceIte, reduceCtorEq, h3, h5, h2, decide_eq_true c1, decide_eq_false c3, decide_eq_true c4, gx_some g2, fa26_1, fa29_0, ti23 ax, ti27 ax, ti3 ax, encA]
        with_reducible rfl
      · exact trivial
      · simp (maxSteps := 900000) (disch := first | omega | decide | (simp only [lzA, Nat.reduceAdd, Nat.reduceLT]; done) | fail) only [b0, b1, b2, b3, b4, b5, b6, b7, b8, Nat.reduceAdd, Nat.reduceEqDiff, Nat.reduceMul, reduceIte, reduceCtorEq, h3, h5, h2, decide_eq_true c1, decide_eq_false c3, decide_eq_true c4, gx_some g2, fa26_1, fa29_0, ti23 ax, ti27 ax, ti3 ax, encA]
        with_reducible rfl
      · exact trivial
      simp only [onT, onTB]
      refine TW.gen (bs := [.cells true 3 [lNodes n.nodes, lLinks n.links, lEdges n.edges], .cells true 2 [ints f_.links, .int .i64 f_.node]]) (fun h => h 2 = .ptr 0 0 3 ∧ h 3 = .ptr 1 0 2 ∧ h 5 = .int .i64 i ∧ h 47 = .bool true) ?_ ?_ ?_
      · rfl
      · exact ⟨h2, h3, h5, rfl⟩
      clear h2 h3 h5 h10 h
      rintro h ⟨h2, h3, h5, h47⟩
      repeat apply TW.seq
      refine TW.cond (b := true) ?_ ?_
      · simp only [eT_tmp, eT_const, kT_bool, h47, decide_eq_true c1, decide_eq_false c3, decide_eq_true c4, Bool.not_true, Bool.not_false]
      simp only [cond_true, cond_false]
      repeat apply TW.seq
      apply TW.region (envs_ok ax) [] []
      · kernel_rfl
      · simp (disch := first | omega | decide | (simp only [lzA, Nat.reduceAdd, Nat.reduceLT]; done) | fail) only [b0, b1, b2, b3, b4, b5, b6, b7, b8, Nat.reduceAdd, Nat.reduceEqDiff, Nat.reduceMul, reduceIte, reduceCtorEq, decide_eq_true c1, decide_eq_false c3, decide_eq_true c4, encA]
        with_reducible rfl
      · exact trivial
      simp only [onT, onTB]
      refine TW.gen (bs := [.cells true 3 [lNodes n.nodes, lLinks n.links, lEdges n.edges], .cells true 2 [ints f_.links, .int .i64 f_.node]]) (fun h => h 4 = .int .i64 1) ?_ ?_ ?_
      · rfl
      · exact rfl
      clear h2 h3 h5 h47 h
      rintro h h4
      apply TW.ret
      cases H1
      rw [Sum.elim_inl] at H
      cases H
      refine ⟨.inr rfl, ?_⟩
      first | (simp only [Try.results33, resT, h4]; done) | (simp only [Try.results33, resT, h4]; rfl)
    rw [if_pos c3] at H1
    repeat apply TW.seq
    apply TW.draw (envs_ok ax) 32 [] [] []
    · kernel_rfl
    · kernel_rfl
    · simp (maxSteps := 900000) (disch := first | omega | decide | (simp only [lzA, Nat.reduceAdd, Nat.reduceLT]; done) | fail) only [b0, b1, b2, b3, b4, b5, b6, b7, b8, Nat.reduceAdd, Nat.reduceEqDiff, Nat.reduceMul, reduceIte, reduceCtorEq, h3, h5, h2, decide_eq_true c1, decide_eq_true c3, gx_some g2, fa29_0, ti27 ax, ti3 ax, encA]
      with_reducible rfl
    · exact trivial
    · simp (maxSteps := 900000) (disch := first | omega | decide | (simp only [lzA, Nat.reduceAdd, Nat.reduceLT]; done) | fail) only [b0, b1, b2, b3, b4, b5, b6, b7, b8, Nat.reduceAdd, Nat.reduceEqDiff, Nat.reduceMul, reduceIte, reduceCtorEq, h3, h5, h2, decide_eq_true c1, decide_eq_true c3, gx_some g2, fa29_0, ti27 ax, ti3 ax, encA]
      with_reducible rfl
    · exact trivial
    simp only [onT, onTB]
    refine TW.gen (bs := [.cells true 3 [lNodes n.nodes, lLinks n.links, lEdges n.edges], .cells true 2 [ints f_.links, .int .i64 f_.node]]) (fun h => h 2 = .ptr 0 0 3 ∧ h 3 = .ptr 1 0 2 ∧ h 5 = .int .i64 i ∧ h 47 = .bool true) ?_ ?_ ?_
    · rfl
    · exact ⟨h2, h3, h5, rfl⟩
    clear h2 h3 h5 h10 h
    rintro h ⟨h2, h3, h5, h47⟩
    repeat apply TW.seq
    refine TW.cond (b := true) ?_ ?_
    · simp only [eT_tmp, eT_const, kT_bool, h47, decide_eq_true c1, decide_eq_true c3, Bool.not_true, Bool.not_false]
    simp only [cond_true, cond_false]
    repeat apply TW.seq
    apply TW.region (envs_ok ax) [] []
    · kernel_rfl
    · simp (disch := first | omega | decide | (simp only [lzA, Nat.reduceAdd, Nat.reduceLT]; done) | fail) only [b0, b1, b2, b3, b4, b5, b6, b7, b8, Nat.reduceAdd, Nat.reduceEqDiff, Nat.reduceMul, reduceIte, reduceCtorEq, decide_eq_true c1, decide_eq_true c3, encA]
      with_reducible rfl
    · exact trivial
    simp only [onT, onTB]
    refine TW.gen (bs := [.cells true 3 [lNodes n.nodes, lLinks n.links, lEdges n.edges], .cells true 2 [ints f_.links, .int .i64 f_.node]]) (fun h => h 4 = .int .i64 1) ?_ ?_ ?_
    · rfl
    · exact rfl
    clear h2 h3 h5 h47 h
    rintro h h4
    apply TW.ret
    cases H1
    rw [Sum.elim_inl] at H
    cases H
    refine ⟨.inr rfl, ?_⟩
    first | (simp only [Try.results33, resT, h4]; done) | (simp only [Try.results33, resT, h4]; rfl)
  clear h2 h3 h5 h
  rintro h bs ⟨s_, rfl, h2, h3, rfl⟩
  rw [Sum.elim_inr] at H
  simp only [onT, onTB]
  by_cases c8 : f_.node ≠ (-1)
  case neg =>
    rw [if_neg c8] at H
    repeat apply TW.seq
    apply TW.region (envs_ok ax) [] []
    · kernel_rfl
    · simp (disch := first | omega | decide | (simp only [lzA, Nat.reduceAdd, Nat.reduceLT]; done) | fail) only [b0, b1, b2, b3, b4, b5, b6, b7, b8, Nat.reduceAdd, Nat.reduceEqDiff, Nat.reduceMul, reduceIte, reduceCtorEq, h3, h2, decide_eq_false c8, fa29_1, ti3 ax, encA]
      with_reducible rfl
    · exact trivial
    simp only [onT, onTB]
    refine TW.gen (bs := [.cells true 3 [lNodes n.nodes, lLinks n.links, lEdges n.edges], .cells true 2 [ints f_.links, .int .i64 f_.node]]) (fun h => h 57 = .bool false) ?_ ?_ ?_
    · rfl
    · exact rfl
    clear h2 h3 h
    rintro h h57
    repeat apply TW.seq
    refine TW.cond (b := false) ?_ ?_
    · simp only [eT_tmp, eT_const, kT_bool, h57, decide_eq_false c8, Bool.not_true, Bool.not_false]
    simp only [cond_true, cond_false]
    repeat apply TW.seq
    apply TW.skip
    simp only [onT, onTB]
    repeat apply TW.seq
    apply TW.region (envs_ok ax) [] []
    · kernel_rfl
    · simp (disch := first | omega | decide | (simp only [lzA, Nat.reduceAdd, Nat.reduceLT]; done) | fail) only [b0, b1, b2, b3, b4, b5, b6, b7, b8, Nat.reduceAdd, Nat.reduceEqDiff, Nat.reduceMul, reduceIte, reduceCtorEq, decide_eq_false c8, encA]
      with_reducible rfl
    · exact trivial
    simp only [onT, onTB]
    refine TW.gen (bs := [.cells true 3 [lNodes n.nodes, lLinks n.links, lEdges n.edges], .cells true 2 [ints f_.links, .int .i64 f_.node]]) (fun h => h 4 = .int .i64 0) ?_ ?_ ?_
    · rfl
    · exact rfl
    clear h57 h
    rintro h h4
    apply TW.ret
    cases H
    refine ⟨.inr rfl, ?_⟩
    first | (simp only [Try.results33, resT, h4]; done) | (simp only [Try.results33, resT, h4]; rfl)
  rw [if_pos c8] at H
  obtain ⟨risNode, e9, H⟩ := bsome H
  repeat apply TW.seq
  apply TW.region (envs_ok ax) [] [(.bool risNode, stL [.cells true 3 [lNodes n.nodes, lLinks n.links, lEdges n.edges], .cells true 2 [ints f_.links, .int .i64 f_.node]])]
  · kernel_rfl
  · simp (disch := first | omega | decide | (simp only [lzA, Nat.reduceAdd, Nat.reduceLT]; done) | fail) only [b0, b1, b2, b3, b4, b5, b6, b7, b8, Nat.reduceAdd, Nat.reduceEqDiff, Nat.reduceMul, reduceIte, reduceCtorEq, h3, h2, decide_eq_true c8, fa29_1, ti26 ax, ti3 ax, encA]
    with_reducible rfl
  · exact ⟨(by have q := Call0.call ((sr09_isNode_ok ax hx k n f_.node risNode e9 ).call (stL [.cells true 3 [lNodes n.nodes, lLinks n.links, lEdges n.edges], .cells true 2 [ints f_.links, .int .i64 f_.node]])); exact q), trivial⟩
  simp only [onT, onTB]
  refine TW.gen (bs := [.cells true 3 [lNodes n.nodes, lLinks n.links, lEdges n.edges], .cells true 2 [ints f_.links, .int .i64 f_.node]]) (fun h => h 57 = .bool (!risNode)) ?_ ?_ ?_
  · rfl
  · exact rfl
  clear h2 h3 h
  rintro h h57
  by_cases c10 : risNode = true
  case neg =>
    rw [if_neg c10] at H
    have c10f := (Bool.not_eq_true _).mp c10
    repeat apply TW.seq
    refine TW.cond (b := true) ?_ ?_
    · simp only [eT_tmp, eT_const, kT_bool, h57, decide_eq_true c8, c10f, Bool.not_true, Bool.not_false]
    simp only [cond_true, cond_false]
    repeat apply TW.seq
    apply TW.region (envs_ok ax) [] []
    · kernel_rfl
    · simp (disch := first | omega | decide | (simp only [lzA, Nat.reduceAdd, Nat.reduceLT]; done) | fail) only [b0, b1, b2, b3, b4, b5, b6, b7, b8, Nat.reduceAdd, Nat.reduceEqDiff, Nat.reduceMul, reduceIte, reduceCtorEq, decide_eq_true c8, c10f, encA]
      with_reducible rfl
    · exact trivial
    simp only [onT, onTB]
    refine TW.gen (bs := [.cells true 3 [lNodes n.nodes, lLinks n.links, lEdges n.edges], .cells true 2 [ints f_.links, .int .i64 f_.node]]) (fun h => h 4 = .int .i64 1) ?_ ?_ ?_
    · rfl
    · exact rfl
    clear h57 h
    rintro h h4
    apply TW.ret
    cases H
    refine ⟨.inr rfl, ?_⟩
    first | (simp only [Try.results33, resT, h4]; done) | (simp only [Try.results33, resT, h4]; rfl)
  rw [if_pos c10] at H
  repeat apply TW.seq
  refine TW.cond (b := false) ?_ ?_
  · simp only [eT_tmp, eT_const, kT_bool, h57, decide_eq_true c8, c10, Bool.not_true, Bool.not_false]
  simp only [cond_true, cond_false]
  repeat apply TW.seq
  apply TW.skip
  simp only [onT, onTB]
  repeat apply TW.seq
  apply TW.region (envs_ok ax) [] []
  · kernel_rfl
  · simp (disch := first | omega | decide | (simp only [lzA, Nat.reduceAdd, Nat.reduceLT]; done) | fail) only [b0, b1, b2, b3, b4, b5, b6, b7, b8, Nat.reduceAdd, Nat.reduceEqDiff, Nat.reduceMul, reduceIte, reduceCtorEq, decide_eq_true c8, c10, encA]
    with_reducible rfl
  · exact trivial
  simp only [onT, onTB]
  refine TW.gen (bs := [.cells true 3 [lNodes n.nodes, lLinks n.links, lEdges n.edges], .cells true 2 [ints f_.links, .int .i64 f_.node]]) (fun h => h 4 = .int .i64 0) ?_ ?_ ?_
  · rfl
  · exact rfl
  clear h57 h
  rintro h h4
  apply TW.ret
  cases H
  refine ⟨.inr rfl, ?_⟩
  first | (simp only [Try.results33, resT, h4]; done) | (simp only [Try.results33, resT, h4]; rfl)
def sl_right (k : Nat) (n : Net) (f_ : Failure) (from_ : Int) (to_ : Int) : Option Bool := ((sr09_Few k n 10 24 20).bind fun rFew => (if rFew = true then ((sr09_Check k n).bind fun rCheck => (if rCheck = 0 then ((sr09_CheckFailure k n f_).bind fun rCheckFailure => (if rCheckFailure = 0 then (if 0 ≤ from_ then (if from_ < (n.nodes.length : Int) then (if 0 ≤ to_ then some (decide (to_ < (n.nodes.length : Int))) else some false) else some false) else some false) else some false)) else some false)) else some false))
set_option maxHeartbeats 8000000 in
theorem sl_right_ok (ax : Axs) (hx : Plain ax) (k : Nat) (n : Net) (f_ : Failure) (from_ : Int) (to_ : Int) (v : Bool) (H : sl_right k n f_ from_ to_ = some v) : Pure Try.prog (EE ax) [] 9 [eNet n, eFail f_, .int .i64 from_, .int .i64 to_] (.bool v) := by
  rw [sl_right] at H
  refine Pure.enter (fn := Try.f9) 44 (hx.no _ (by decide)) (fn9 ax) rfl Try.ntmps9 (by decide) (by simp) (by simp only [ids2B, ids2C, idsA, idsB, Bool.and_self]) (by first | rfl | simp only [ids2B, ids2C, idsA, idsB, Bool.and_self] | simp only [tupT, ids2B, ids2C, idsA, idsB, Bool.and_self]) ?_
  simp only [argT_cons, argT_nil, Nat.reduceAdd]
  refine TW.gen (bs := []) (fun h => h 0 = eNet n ∧ h 1 = eFail f_ ∧ h 2 = .int .i64 from_ ∧ h 3 = .int .i64 to_) rfl ?_ ?_
  · exact ⟨rfl, rfl, rfl, rfl⟩
  rintro h ⟨h0, h1, h2, h3⟩
  repeat apply TW.seq
  apply TW.region (envs_ok ax) [] []
  · kernel_rfl
  · simp (disch := first | omega | decide | (simp only [lzA, Nat.reduceAdd, Nat.reduceLT]; done) | fail) only [b0, b1, b2, b3, b4, b5, b6, b7, b8, Nat.reduceAdd, Nat.reduceEqDiff, Nat.reduceMul, reduceIte, reduceCtorEq, h0, h1, encA]
    with_reducible rfl
  · exact trivial
  simp only [onT, onTB]
  refine TW.gen (bs := [.cells true 3 [lNodes n.nodes, lLinks n.links, lEdges n.edges], .cells true 2 [ints f_.links, .int .i64 f_.node]]) (fun h => h 2 = .int .i64 from_ ∧ h 3 = .int .i64 to_ ∧ h 4 = .ptr 0 0 3 ∧ h 5 = .ptr 1 0 2) ?_ ?_ ?_
  · rfl
  · exact ⟨h2, h3, rfl, rfl⟩
  clear h0 h1 h2 h3 h
  rintro h ⟨h2, h3, h4, h5⟩
  obtain ⟨rFew, e1, H⟩ := bsome H
  by_cases c2 : rFew = true
  case neg =>
    rw [if_neg c2] at H
    have c2f := (Bool.not_eq_true _).mp c2
    repeat apply TW.seq
    apply TW.region (envs_ok ax) [] [(.bool rFew, stL [.cells true 3 [lNodes n.nodes, lLinks n.links, lEdges n.edges], .cells true 2 [ints f_.links, .int .i64 f_.node]])]
    · kernel_rfl
    · simp (maxSteps := 900000) (disch := first | omega | decide | (simp only [lzA, Nat.reduceAdd, Nat.reduceLT]; done) | fail) only [b0, b1, b2, b3, b4, b5, b6, b7, b8, Nat.reduceAdd, Nat.reduceEqDiff, Nat.reduceMul, reduceIte, reduceCtorEq, h4, h5, h2, h3, c2f, ti26 ax, encA]
      with_reducible rfl
    · exact ⟨(by have q := Call0.call ((sr09_Few_ok ax hx k n 10 24 20 rFew e1 ).call (stL [.cells true 3 [lNodes n.nodes, lLinks n.links, lEdges n.edges], .cells true 2 [ints f_.links, .int .i64 f_.node]])); (try simp only [c2f] at q); exact q), trivial⟩
    simp only [onT, onTB]
    refine TW.gen (bs := [.cells true 3 [lNodes n.nodes, lLinks n.links, lEdges n.edges], .cells true 2 [ints f_.links, .int .i64 f_.node]]) (fun h => h 8 = .bool false) ?_ ?_ ?_
    · rfl
    · exact rfl
    clear h2 h3 h4 h5 h
    rintro h h8
    apply TW.ret
    cases H
    refine ⟨.inr rfl, ?_⟩
    first | (simp only [Try.results9, resT, h8]; done) | (simp only [Try.results9, resT, h8]; rfl)
  rw [if_pos c2] at H
  obtain ⟨rCheck, e3, H⟩ := bsome H
  by_cases c4 : rCheck = 0
  case neg =>
    rw [if_neg c4] at H
    repeat apply TW.seq
    apply TW.region (envs_ok ax) [] [(.bool rFew, stL [.cells true 3 [lNodes n.nodes, lLinks n.links, lEdges n.edges], .cells true 2 [ints f_.links, .int .i64 f_.node]]), (.int .i64 rCheck, stL [.cells true 3 [lNodes n.nodes, lLinks n.links, lEdges n.edges], .cells true 2 [ints f_.links, .int .i64 f_.node]])]
    · kernel_rfl
    · simp (maxSteps := 900000) (disch := first | omega | decide | (simp only [lzA, Nat.reduceAdd, Nat.reduceLT]; done) | fail) only [b0, b1, b2, b3, b4, b5, b6, b7, b8, Nat.reduceAdd, Nat.reduceEqDiff, Nat.reduceMul, reduceIte, reduceCtorEq, h4, h5, h2, h3, c2, decide_eq_false c4, ti26 ax, encA]
      with_reducible rfl
    · exact ⟨(by have q := Call0.call ((sr09_Few_ok ax hx k n 10 24 20 rFew e1 ).call (stL [.cells true 3 [lNodes n.nodes, lLinks n.links, lEdges n.edges], .cells true 2 [ints f_.links, .int .i64 f_.node]])); (try simp only [c2] at q); exact q), (by have q := Call0.call ((sr09_Check_ok ax hx k n rCheck e3 ).call (stL [.cells true 3 [lNodes n.nodes, lLinks n.links, lEdges n.edges], .cells true 2 [ints f_.links, .int .i64 f_.node]])); (try simp only [c2] at q); exact q), trivial⟩
    simp only [onT, onTB]
    refine TW.gen (bs := [.cells true 3 [lNodes n.nodes, lLinks n.links, lEdges n.edges], .cells true 2 [ints f_.links, .int .i64 f_.node]]) (fun h => h 8 = .bool false) ?_ ?_ ?_
    · rfl
    · exact rfl
    clear h2 h3 h4 h5 h
    rintro h h8
    apply TW.ret
    cases H
    refine ⟨.inr rfl, ?_⟩
    first | (simp only [Try.results9, resT, h8]; done) | (simp only [Try.results9, resT, h8]; rfl)
  rw [if_pos c4] at H
  obtain ⟨rCheckFailure, e5, H⟩ := bsome H
  by_cases c6 : rCheckFailure = 0
  case neg =>
    rw [if_neg c6] at H
    repeat apply TW.seq
    apply TW.region (envs_ok ax) [] [(.bool rFew, stL [.cells true 3 [lNodes n.nodes, lLinks n.links, lEdges n.edges], .cells true 2 [ints f_.links, .int .i64 f_.node]]), (.int .i64 rCheck, stL [.cells true 3 [lNodes n.nodes, lLinks n.links, lEdges n.edges], .cells true 2 [ints f_.links, .int .i64 f_.node]]), (.int .i64 rCheckFailure, stL [.cells true 3 [lNodes n.nodes, lLinks n.links, lEdges n.edges], .cells true 2 [ints f_.links, .int .i64 f_.node]])]
    · kernel_rfl
    · simp (maxSteps := 900000) (disch := first | omega | decide | (simp only [lzA, Nat.reduceAdd, Nat.reduceLT]; done) | fail) only [b0, b1, b2, b3, b4, b5, b6, b7, b8, Nat.reduceAdd, Nat.reduceEqDiff, Nat.reduceMul, reduceIte, reduceCtorEq, h4, h5, h2, h3, c2, decide_eq_true c4, decide_eq_false c6, ti26 ax, ti29 ax, encA]
      with_reducible rfl
    · exact ⟨(by have q := Call0.call ((sr09_Few_ok ax hx k n 10 24 20 rFew e1 ).call (stL [.cells true 3 [lNodes n.nodes, lLinks n.links, lEdges n.edges], .cells true 2 [ints f_.links, .int .i64 f_.node]])); (try simp only [c2] at q); exact q), (by have q := Call0.call ((sr09_Check_ok ax hx k n rCheck e3 ).call (stL [.cells true 3 [lNodes n.nodes, lLinks n.links, lEdges n.edges], .cells true 2 [ints f_.links, .int .i64 f_.node]])); (try simp only [c2] at q); exact q), (by have q := Call0.call ((sr09_CheckFailure_ok ax hx k n f_ rCheckFailure e5 ).call (stL [.cells true 3 [lNodes n.nodes, lLinks n.links, lEdges n.edges], .cells true 2 [ints f_.links, .int .i64 f_.node]])); (try simp only [c2] at q); exact q), trivial⟩
    simp only [onT, onTB]
    refine TW.gen (bs := [.cells true 3 [lNodes n.nodes, lLinks n.links, lEdges n.edges], .cells true 2 [ints f_.links, .int .i64 f_.node]]) (fun h => h 8 = .bool false) ?_ ?_ ?_
    · rfl
    · exact rfl
    clear h2 h3 h4 h5 h
    rintro h h8
    apply TW.ret
    cases H
    refine ⟨.inr rfl, ?_⟩
    first | (simp only [Try.results9, resT, h8]; done) | (simp only [Try.results9, resT, h8]; rfl)
  rw [if_pos c6] at H
  by_cases c7 : 0 ≤ from_
  case neg =>
    rw [if_neg c7] at H
    repeat apply TW.seq
    apply TW.region (envs_ok ax) [] [(.bool rFew, stL [.cells true 3 [lNodes n.nodes, lLinks n.links, lEdges n.edges], .cells true 2 [ints f_.links, .int .i64 f_.node]]), (.int .i64 rCheck, stL [.cells true 3 [lNodes n.nodes, lLinks n.links, lEdges n.edges], .cells true 2 [ints f_.links, .int .i64 f_.node]]), (.int .i64 rCheckFailure, stL [.cells true 3 [lNodes n.nodes, lLinks n.links, lEdges n.edges], .cells true 2 [ints f_.links, .int .i64 f_.node]])]
    · kernel_rfl
    · simp (maxSteps := 900000) (disch := first | omega | decide | (simp only [lzA, Nat.reduceAdd, Nat.reduceLT]; done) | fail) only [b0, b1, b2, b3, b4, b5, b6, b7, b8, Nat.reduceAdd, Nat.reduceEqDiff, Nat.reduceMul, reduceIte, reduceCtorEq, h4, h5, h2, h3, c2, decide_eq_true c4, decide_eq_true c6, decide_eq_false c7, ti26 ax, ti29 ax, encA]
      with_reducible rfl
    · exact ⟨(by have q := Call0.call ((sr09_Few_ok ax hx k n 10 24 20 rFew e1 ).call (stL [.cells true 3 [lNodes n.nodes, lLinks n.links, lEdges n.edges], .cells true 2 [ints f_.links, .int .i64 f_.node]])); (try simp only [c2] at q); exact q), (by have q := Call0.call ((sr09_Check_ok ax hx k n rCheck e3 ).call (stL [.cells true 3 [lNodes n.nodes, lLinks n.links, lEdges n.edges], .cells true 2 [ints f_.links, .int .i64 f_.node]])); (try simp only [c2] at q); exact q), (by have q := Call0.call ((sr09_CheckFailure_ok ax hx k n f_ rCheckFailure e5 ).call (stL [.cells true 3 [lNodes n.nodes, lLinks n.links, lEdges n.edges], .cells true 2 [ints f_.links, .int .i64 f_.node]])); (try simp only [c2] at q); exact q), trivial⟩
    simp only [onT, onTB]
    refine TW.gen (bs := [.cells true 3 [lNodes n.nodes, lLinks n.links, lEdges n.edges], .cells true 2 [ints f_.links, .int .i64 f_.node]]) (fun h => h 8 = .bool false) ?_ ?_ ?_
    · rfl
    · exact rfl
    clear h2 h3 h4 h5 h
    rintro h h8
    apply TW.ret
    cases H
    refine ⟨.inr rfl, ?_⟩
    first | (simp only [Try.results9, resT, h8]; done) | (simp only [Try.results9, resT, h8]; rfl)
  rw [if_pos c7] at H
  by_cases c8 : from_ < (n.nodes.length : Int)
  case neg =>
    rw [if_neg c8] at H
    repeat apply TW.seq
    apply TW.region (envs_ok ax) [] [(.bool rFew, stL [.cells true 3 [lNodes n.nodes, lLinks n.links, lEdges n.edges], .cells true 2 [ints f_.links, .int .i64 f_.node]]), (.int .i64 rCheck, stL [.cells true 3 [lNodes n.nodes, lLinks n.links, lEdges n.edges], .cells true 2 [ints f_.links, .int .i64 f_.node]]), (.int .i64 rCheckFailure, stL [.cells true 3 [lNodes n.nodes, lLinks n.links, lEdges n.edges], .cells true 2 [ints f_.links, .int .i64 f_.node]])]
    · kernel_rfl
    · simp (maxSteps := 900000) (disch := first | omega | decide | (simp only [lzA, Nat.reduceAdd, Nat.reduceLT]; done) | fail) only [b0, b1, b2, b3, b4, b5, b6, b7, b8, Nat.reduceAdd, Nat.reduceEqDiff, Nat.reduceMul, reduceIte, reduceCtorEq, h4, h5, h2, h3, c2, decide_eq_true c4, decide_eq_true c6, decide_eq_true c7, decide_eq_false c8, fa26_0, ti22 ax, ti26 ax, ti29 ax, encA]
      with_reducible rfl
    · exact ⟨(by have q := Call0.call ((sr09_Few_ok ax hx k n 10 24 20 rFew e1 ).call (stL [.cells true 3 [lNodes n.nodes, lLinks n.links, lEdges n.edges], .cells true 2 [ints f_.links, .int .i64 f_.node]])); (try simp only [c2] at q); exact q), (by have q := Call0.call ((sr09_Check_ok ax hx k n rCheck e3 ).call (stL [.cells true 3 [lNodes n.nodes, lLinks n.links, lEdges n.edges], .cells true 2 [ints f_.links, .int .i64 f_.node]])); (try simp only [c2] at q); exact q), (by have q := Call0.call ((sr09_CheckFailure_ok ax hx k n f_ rCheckFailure e5 ).call (stL [.cells true 3 [lNodes n.nodes, lLinks n.links, lEdges n.edges], .cells true 2 [ints f_.links, .int .i64 f_.node]])); (try simp only [c2] at q); exact q), trivial⟩
    simp only [onT, onTB]
    refine TW.gen (bs := [.cells true 3 [lNodes n.nodes, lLinks n.links, lEdges n.edges], .cells true 2 [ints f_.links, .int .i64 f_.node]]) (fun h => h 8 = .bool false) ?_ ?_ ?_
    · rfl
    · exact rfl
    clear h2 h3 h4 h5 h
    rintro h h8
    apply TW.ret
    cases H
    refine ⟨.inr rfl, ?_⟩
    first | (simp only [Try.results9, resT, h8]; done) | (simp only [Try.results9, resT, h8]; rfl)
  rw [if_pos c8] at H
  by_cases c9 : 0 ≤ to_
  case neg =>
    rw [if_neg c9] at H
    repeat apply TW.seq
    apply TW.region (envs_ok ax) [] [(.bool rFew, stL [.cells true 3 [lNodes n.nodes, lLinks n.links, lEdges n.edges], .cells true 2 [ints f_.links, .int .i64 f_.node]]), (.int .i64 rCheck, stL [.cells true 3 [lNodes n.nodes, lLinks n.links, lEdges n.edges], .cells true 2 [ints f_.links, .int .i64 f_.node]]), (.int .i64 rCheckFailure, stL [.cells true 3 [lNodes n.nodes, lLinks n.links, lEdges n.edges], .cells true 2 [ints f_.links, .int .i64 f_.node]])]
    · kernel_rfl
    · simp (maxSteps := 900000) (disch := first | omega | decide | (simp only [lzA, Nat.reduceAdd, Nat.reduceLT]; done) | fail) only [b0, b1, b2, b3, b4, b5, b6, b7, b8, Nat.reduceAdd, Nat.reduceEqDiff, Nat.reduceMul, reduceIte, reduceCtorEq, h4, h5, h2, h3, c2, decide_eq_true c4, decide_eq_true c6, decide_eq_true c7, decide_eq_true c8, decide_eq_false c9, fa26_0, ti22 ax, ti26 ax, ti29 ax, encA]
      with_reducible rfl
    · exact ⟨(by have q := Call0.call ((sr09_Few_ok ax hx k n 10 24 20 rFew e1 ).call (stL [.cells true 3 [lNodes n.nodes, lLinks n.links, lEdges n.edges], .cells true 2 [ints f_.links, .int .i64 f_.node]])); (try simp only [c2] at q); exact q), (by have q := Call0.call ((sr09_Check_ok ax hx k n rCheck e3 ).call (stL [.cells true 3 [lNodes n.nodes, lLinks n.links, lEdges n.edges], .cells true 2 [ints f_.links, .int .i64 f_.node]])); (try simp only [c2] at q); exact q), (by have q := Call0.call ((sr09_CheckFailure_ok ax hx k n f_ rCheckFailure e5 ).call (stL [.cells true 3 [lNodes n.nodes, lLinks n.links, lEdges n.edges], .cells true 2 [ints f_.links, .int .i64 f_.node]])); (try simp only [c2] at q); exact q), trivial⟩
    simp only [onT, onTB]
    refine TW.gen (bs := [.cells true 3 [lNodes n.nodes, lLinks n.links, lEdges n.edges], .cells true 2 [ints f_.links, .int .i64 f_.node]]) (fun h => h 8 = .bool false) ?_ ?_ ?_
    · rfl
    · exact rfl
    clear h2 h3 h4 h5 h
    rintro h h8
    apply TW.ret
    cases H
    refine ⟨.inr rfl, ?_⟩
    first | (simp only [Try.results9, resT, h8]; done) | (simp only [Try.results9, resT, h8]; rfl)
  rw [if_pos c9] at H
  repeat apply TW.seq
  apply TW.region (envs_ok ax) [] [(.bool rFew, stL [.cells true 3 [lNodes n.nodes, lLinks n.links, lEdges n.edges], .cells true 2 [ints f_.links, .int .i64 f_.node]]), (.int .i64 rCheck, stL [.cells true 3 [lNodes n.nodes, lLinks n.links, lEdges n.edges], .cells true 2 [ints f_.links, .int .i64 f_.node]]), (.int .i64 rCheckFailure, stL [.cells true 3 [lNodes n.nodes, lLinks n.links, lEdges n.edges], .cells true 2 [ints f_.links, .int .i64 f_.node]])]
  · kernel_rfl
  · simp (maxSteps := 900000) (disch := first | omega | decide | (simp only [lzA, Nat.reduceAdd, Nat.reduceLT]; done) | fail) only [b0, b1, b2, b3, b4, b5, b6, b7, b8, Nat.reduceAdd, Nat.reduceEqDiff, Nat.reduceMul, reduceIte, reduceCtorEq, h4, h5, h2, h3, c2, decide_eq_true c4, decide_eq_true c6, decide_eq_true c7, decide_eq_true c8, decide_eq_true c9, fa26_0, ti22 ax, ti26 ax, ti29 ax, encA]
    with_reducible rfl
  · exact ⟨(by have q := Call0.call ((sr09_Few_ok ax hx k n 10 24 20 rFew e1 ).call (stL [.cells true 3 [lNodes n.nodes, lLinks n.links, lEdges n.edges], .cells true 2 [ints f_.links, .int .i64 f_.node]])); (try simp only [c2] at q); exact q), (by have q := Call0.call ((sr09_Check_ok ax hx k n rCheck e3 ).call (stL [.cells true 3 [lNodes n.nodes, lLinks n.links, lEdges n.edges], .cells true 2 [ints f_.links, .int .i64 f_.node]])); (try simp only [c2] at q); exact q), (by have q := Call0.call ((sr09_CheckFailure_ok ax hx k n f_ rCheckFailure e5 ).call (stL [.cells true 3 [lNodes n.nodes, lLinks n.links, lEdges n.edges], .cells true 2 [ints f_.links, .int .i64 f_.node]])); (try simp only [c2] at q); exact q), trivial⟩
  simp only [onT, onTB]
  refine TW.gen (bs := [.cells true 3 [lNodes n.nodes, lLinks n.links, lEdges n.edges], .cells true 2 [ints f_.links, .int .i64 f_.node]]) (fun h => h 8 = .bool (decide (to_ < (n.nodes.length : Int)))) ?_ ?_ ?_
  · rfl
  · exact rfl
  clear h2 h3 h4 h5 h
  rintro h h8
  apply TW.ret
  cases H
  refine ⟨.inr rfl, ?_⟩
  first | (simp only [Try.results9, resT, h8]; done) | (simp only [Try.results9, resT, h8]; rfl)
end Go.Proofs.Ytfalnphlgfoflaa