/- Functions as plain functions, and that the code computes them. -/
import Derived.Test.YtfalnphlgfoflaaSA
namespace Go.Proofs.Ytfalnphlgfoflaa
open Go Go.RowKit
set_option linter.unusedSimpArgs false
set_option linter.unusedVariables false
set_option linter.unusedSectionVars false
set_option maxRecDepth 100000
def sflow_isNode (k : Nat) (n : Net) (k_ : Int) : Option Bool := (if 0 ≤ k_ then some (decide (k_ < (n.nodes.length : Int))) else some false)
set_option maxHeartbeats 8000000 in
theorem sflow_isNode_ok (ax : Axs) (hx : Plain ax) (k : Nat) (n : Net) (k_ : Int) (v : Bool) (H : sflow_isNode k n k_ = some v) : Pure Try.prog (EE ax) [] 39 [eNet n, .int .i64 k_] (.bool v) := by
  rw [sflow_isNode] at H
  refine Pure.enter (fn := Try.f39) 14 (hx.no _ (by decide)) (fn39 ax) rfl Try.ntmps39 (by decide) (by simp) (by simp only [ids2B, ids2C, idsA, idsB, Bool.and_self]) (by first | rfl | simp only [ids2B, ids2C, idsA, idsB, Bool.and_self] | simp only [tupT, ids2B, ids2C, idsA, idsB, Bool.and_self]) ?_
  simp only [argT_cons, argT_nil, Nat.reduceAdd]
  refine TW.gen (bs := []) (fun h => h 0 = eNet n ∧ h 1 = .int .i64 k_) rfl ?_ ?_
  · exact ⟨rfl, rfl⟩
  rintro h ⟨h0, h1⟩
  repeat apply TW.seq
  apply TW.region (envs_ok ax) [] []
  · kernel_rfl
  · simp (disch := first | omega | decide | (simp only [lzA, Nat.reduceAdd, Nat.reduceLT]; done) | fail) only [b0, b1, b2, b3, b4, b5, b6, b7, b8, Nat.reduceAdd, Nat.reduceEqDiff, Nat.reduceMul, reduceIte, reduceCtorEq, h0, encA]
    with_reducible rfl
  · exact trivial
  simp only [onT, onTB]
  refine TW.gen (bs := [.cells true 3 [lNodes n.nodes, lLinks n.links, lEdges n.edges]]) (fun h => h 1 = .int .i64 k_ ∧ h 2 = .ptr 0 0 3) ?_ ?_ ?_
  · rfl
  · exact ⟨h1, rfl⟩
  clear h0 h1 h
  rintro h ⟨h1, h2⟩
  by_cases c1 : 0 ≤ k_
  case neg =>
    rw [if_neg c1] at H
    repeat apply TW.seq
    apply TW.region (envs_ok ax) [] []
    · kernel_rfl
    · simp (disch := first | omega | decide | (simp only [lzA, Nat.reduceAdd, Nat.reduceLT]; done) | fail) only [b0, b1, b2, b3, b4, b5, b6, b7, b8, Nat.reduceAdd, Nat.reduceEqDiff, Nat.reduceMul, reduceIte, reduceCtorEq, h1, h2, decide_eq_false c1, encA]
      with_reducible rfl
    · exact trivial
    simp only [onT, onTB]
    refine TW.gen (bs := [.cells true 3 [lNodes n.nodes, lLinks n.links, lEdges n.edges]]) (fun h => h 4 = .bool false) ?_ ?_ ?_
    · rfl
    · exact rfl
    clear h1 h2 h
    rintro h h4
    apply TW.ret
    cases H
    refine ⟨.inr rfl, ?_⟩
    first | (simp only [Try.results39, resT, h4]; done) | (simp only [Try.results39, resT, h4]; rfl)
  rw [if_pos c1] at H
  repeat apply TW.seq
  apply TW.region (envs_ok ax) [] []
  · kernel_rfl
  · simp (disch := first | omega | decide | (simp only [lzA, Nat.reduceAdd, Nat.reduceLT]; done) | fail) only [b0, b1, b2, b3, b4, b5, b6, b7, b8, Nat.reduceAdd, Nat.reduceEqDiff, Nat.reduceMul, reduceIte, reduceCtorEq, h1, h2, decide_eq_true c1, fa26_0, ti22 ax, encA]
    with_reducible rfl
  · exact trivial
  simp only [onT, onTB]
  refine TW.gen (bs := [.cells true 3 [lNodes n.nodes, lLinks n.links, lEdges n.edges]]) (fun h => h 4 = .bool (decide (k_ < (n.nodes.length : Int)))) ?_ ?_ ?_
  · rfl
  · exact rfl
  clear h1 h2 h
  rintro h h4
  apply TW.ret
  cases H
  refine ⟨.inr rfl, ?_⟩
  first | (simp only [Try.results39, resT, h4]; done) | (simp only [Try.results39, resT, h4]; rfl)
def sflow_Capacity_L0 (k : Nat) (n : Net) (f_ : Failure) (cut : List Int) : Nat → Int → Int → Option Int
  | 0, _, _ => none
  | m + 1, total, i => (if i < (n.links.length : Int) then (if (0 : Int) ≤ i ∧ i < (n.links.length : Int) then ((sgraph_Up k n f_ i).bind fun rUp => (if rUp = true then ((sslices_Contains k cut ((gx n.links i).frm)).bind fun rContains => (if rContains = true then ((sslices_Contains k cut ((gx n.links i).to)).bind fun rContains2 => (if rContains2 = true then sflow_Capacity_L0 k n f_ cut m total (IntKind.i64.wrap (i + 1)) else sflow_Capacity_L0 k n f_ cut m (IntKind.i64.wrap (total + ((gx n.links i).cap))) (IntKind.i64.wrap (i + 1)))) else sflow_Capacity_L0 k n f_ cut m total (IntKind.i64.wrap (i + 1)))) else sflow_Capacity_L0 k n f_ cut m total (IntKind.i64.wrap (i + 1)))) else none) else some total)
def sflow_Capacity (k : Nat) (n : Net) (f_ : Failure) (cut : List Int) : Option Int := ((sflow_Capacity_L0 k n f_ cut k 0 0 : Option Int).bind fun s_ => some s_)
set_option maxHeartbeats 8000000 in
theorem sflow_Capacity_ok (ax : Axs) (hx : Plain ax) (k : Nat) (n : Net) (f_ : Failure) (cut : List Int) (v : Int) (H : sflow_Capacity k n f_ cut = some v) : Pure Try.prog (EE ax) [] 18 [eNet n, eFail f_, ints cut] (.int .i64 v) := by
  rw [sflow_Capacity] at H
  refine Pure.enter (fn := Try.f18) 41 (hx.no _ (by decide)) (fn18 ax) rfl Try.ntmps18 (by decide) (by simp) (by simp only [ids2B, ids2C, idsA, idsB, Bool.and_self]) (by first | rfl | simp only [ids2B, ids2C, idsA, idsB, Bool.and_self] | simp only [tupT, ids2B, ids2C, idsA, idsB, Bool.and_self]) ?_
  simp only [argT_cons, argT_nil, Nat.reduceAdd]
  refine TW.gen (bs := []) (fun h => h 0 = eNet n ∧ h 1 = eFail f_ ∧ h 2 = ints cut) rfl ?_ ?_
  · exact ⟨rfl, rfl, rfl⟩
  rintro h ⟨h0, h1, h2⟩
  repeat apply TW.seq
  apply TW.region (envs_ok ax) [] []
  · kernel_rfl
  · simp (disch := first | omega | decide | (simp only [lzA, Nat.reduceAdd, Nat.reduceLT]; done) | fail) only [b0, b1, b2, b3, b4, b5, b6, b7, b8, Nat.reduceAdd, Nat.reduceEqDiff, Nat.reduceMul, reduceIte, reduceCtorEq, h0, h1, encA]
    with_reducible rfl
  · exact trivial
  simp only [onT, onTB]
  refine TW.gen (bs := [.cells true 3 [lNodes n.nodes, lLinks n.links, lEdges n.edges], .cells true 2 [ints f_.links, .int .i64 f_.node]]) (fun h => h 2 = ints cut ∧ h 3 = .ptr 0 0 3 ∧ h 4 = .ptr 1 0 2) ?_ ?_ ?_
  · rfl
  · exact ⟨h2, rfl, rfl⟩
  clear h0 h1 h2 h
  rintro h ⟨h2, h3, h4⟩
  repeat apply TW.seq
  apply TW.region (envs_ok ax) [] []
  · kernel_rfl
  · simp (disch := first | omega | decide | (simp only [lzA, Nat.reduceAdd, Nat.reduceLT]; done) | fail) only [b0, b1, b2, b3, b4, b5, b6, b7, b8, Nat.reduceAdd, Nat.reduceEqDiff, Nat.reduceMul, reduceIte, reduceCtorEq, encA]
    with_reducible rfl
  · exact trivial
  simp only [onT, onTB]
  refine TW.gen (bs := [.cells true 3 [lNodes n.nodes, lLinks n.links, lEdges n.edges], .cells true 2 [ints f_.links, .int .i64 f_.node]]) (fun h => h 2 = ints cut ∧ h 3 = .ptr 0 0 3 ∧ h 4 = .ptr 1 0 2 ∧ h 7 = .int .i64 0) ?_ ?_ ?_
  · rfl
  · exact ⟨h2, h3, h4, rfl⟩
  clear h2 h3 h4 h
  rintro h ⟨h2, h3, h4, h7⟩
  repeat apply TW.seq
  apply TW.region (envs_ok ax) [] []
  · kernel_rfl
  · simp (disch := first | omega | decide | (simp only [lzA, Nat.reduceAdd, Nat.reduceLT]; done) | fail) only [b0, b1, b2, b3, b4, b5, b6, b7, b8, Nat.reduceAdd, Nat.reduceEqDiff, Nat.reduceMul, reduceIte, reduceCtorEq, h3, fa26_1, ti23 ax, encA]
    with_reducible rfl
  · exact trivial
  simp only [onT, onTB]
  refine TW.gen (bs := [.cells true 3 [lNodes n.nodes, lLinks n.links, lEdges n.edges], .cells true 2 [ints f_.links, .int .i64 f_.node]]) (fun h => h 2 = ints cut ∧ h 3 = .ptr 0 0 3 ∧ h 4 = .ptr 1 0 2 ∧ h 7 = .int .i64 0 ∧ h 11 = lLinks n.links ∧ h 12 = .int .i64 (n.links.length : Int) ∧ h 13 = .int .i64 0) ?_ ?_ ?_
  · rfl
  · exact ⟨h2, h3, h4, h7, rfl, rfl, rfl⟩
  clear h2 h3 h4 h7 h
  rintro h ⟨h2, h3, h4, h7, h11, h12, h13⟩
  obtain ⟨s_, H1, H⟩ := bsome H
  repeat apply TW.seq
  refine TW.cutN [7] 2 (by simp only [lzA] <;> omega) (fun h bs => h 7 = .int .i64 s_ ∧ bs = [.cells true 3 [lNodes n.nodes, lLinks n.links, lEdges n.edges], .cells true 2 [ints f_.links, .int .i64 f_.node]]) ?_ ?_
  · skip
    repeat apply TW.seq
    apply TW.block
    repeat apply TW.seq
    refine TW.loopT [2, 3, 4, 7, 11, 12, 13] (fun m h bs => ∃ (total : Int) (i : Int), sflow_Capacity_L0 k n f_ cut m total i = some s_ ∧ h 2 = ints cut ∧ h 3 = .ptr 0 0 3 ∧ h 4 = .ptr 1 0 2 ∧ h 7 = .int .i64 total ∧ h 11 = lLinks n.links ∧ h 12 = .int .i64 (n.links.length : Int) ∧ h 13 = .int .i64 i ∧ bs = [.cells true 3 [lNodes n.nodes, lLinks n.links, lEdges n.edges], .cells true 2 [ints f_.links, .int .i64 f_.node]]) ?_ k _ _ ?_
    rotate_left
    · exact ⟨0, 0, H1, (by first | exact h2 | (rw [h2]; rfl)), (by first | exact h3 | (rw [h3]; rfl)), (by first | exact h4 | (rw [h4]; rfl)), (by first | exact h7 | (rw [h7]; rfl)), (by first | exact h11 | (rw [h11]; rfl)), (by first | exact h12 | (rw [h12]; rfl)), (by first | exact h13 | (rw [h13]; rfl)), rfl⟩
    clear h2 h3 h4 h7 h11 h12 h13 h
    clear H1
    rintro m h bs ⟨total, i, H1, h2, h3, h4, h7, h11, h12, h13, rfl⟩
    rcases m with _ | m
    · rw [sflow_Capacity_L0] at H1; cases H1
    rw [sflow_Capacity_L0] at H1
    repeat apply TW.seq
    apply TW.region (envs_ok ax) [] []
    · kernel_rfl
    · simp (disch := first | omega | decide | (simp only [lzA, Nat.reduceAdd, Nat.reduceLT]; done) | fail) only [b0, b1, b2, b3, b4, b5, b6, b7, b8, Nat.reduceAdd, Nat.reduceEqDiff, Nat.reduceMul, reduceIte, reduceCtorEq, h13, h12, encA]
      with_reducible rfl
    · exact trivial
    simp only [onT, onTB]
    refine TW.gen (bs := [.cells true 3 [lNodes n.nodes, lLinks n.links, lEdges n.edges], .cells true 2 [ints f_.links, .int .i64 f_.node]]) (fun h => h 2 = ints cut ∧ h 3 = .ptr 0 0 3 ∧ h 4 = .ptr 1 0 2 ∧ h 7 = .int .i64 total ∧ h 11 = lLinks n.links ∧ h 12 = .int .i64 (n.links.length : Int) ∧ h 13 = .int .i64 i ∧ h 14 = .bool (decide (i < (n.links.length : Int)))) ?_ ?_ ?_
    · rfl
    · exact ⟨h2, h3, h4, h7, h11, h12, h13, rfl⟩
    clear h2 h3 h4 h7 h11 h12 h13 h
    rintro h ⟨h2, h3, h4, h7, h11, h12, h13, h14⟩
    by_cases c1 : i < (n.links.length : Int)
    case neg =>
      rw [if_neg c1] at H1
      repeat apply TW.seq
      refine TW.cond (b := false) ?_ ?_
      · simp only [eT_tmp, eT_const, kT_bool, h14, decide_eq_false c1, Bool.not_true, Bool.not_false]
      simp only [cond_true, cond_false]
      apply TW.exit
      simp (disch := decide) only [onT, onTB, Nat.beq_refl, beq_no, cond_true, cond_false]
      cases H1
      refine ⟨_, rfl, by simp only [lzA] <;> omega, ?_, ?_, ?_⟩
      · simp only [ids2A, ids2B, ids2C, reduceIte, Nat.reduceEqDiff, Nat.reduceAdd, Nat.reduceLT, Nat.reduceLeDiff, idsA, idsB, h2, h3, h4, h7, h11, h12, h13, h14]
      · simp only [ids2A, ids2B, ids2C, reduceIte, Nat.reduceEqDiff, Nat.reduceAdd, Nat.reduceLT, Nat.reduceLeDiff, idsA, idsB, h2, h3, h4, h7, h11, h12, h13, h14]
      · exact ⟨(keepT_at (by decide)).trans (by first | exact h7 | (rw [h7]; rfl)), (by first | rfl | trivial)⟩
    rw [if_pos c1] at H1
    repeat apply TW.seq
    refine TW.cond (b := true) ?_ ?_
    · simp only [eT_tmp, eT_const, kT_bool, h14, decide_eq_true c1, Bool.not_true, Bool.not_false]
    simp only [cond_true, cond_false]
    repeat apply TW.seq
    apply TW.skip
    simp only [onT, onTB]
    repeat apply TW.seq
    apply TW.block
    by_cases g2 : (0 : Int) ≤ i ∧ i < (n.links.length : Int)
    case neg => rw [if_neg g2] at H1; cases H1
    rw [if_pos g2] at H1
    repeat apply TW.seq
    apply TW.region (envs_ok ax) [] []
    · kernel_rfl
    · simp (disch := first | omega | decide | (simp only [lzA, Nat.reduceAdd, Nat.reduceLT]; done) | fail) only [b0, b1, b2, b3, b4, b5, b6, b7, b8, Nat.reduceAdd, Nat.reduceEqDiff, Nat.reduceMul, reduceIte, reduceCtorEq, h13, h11, decide_eq_true c1, gx_some g2, ti23 ax, ti51 ax, encA]
      with_reducible rfl
    · exact trivial
    simp only [onT, onTB]
    refine TW.gen (bs := [.cells true 3 [lNodes n.nodes, lLinks n.links, lEdges n.edges], .cells true 2 [ints f_.links, .int .i64 f_.node], .cells true 3 [.int .i64 ((gx n.links i).frm), .int .i64 ((gx n.links i).to), .int .i64 ((gx n.links i).cap)]]) (fun h => h 2 = ints cut ∧ h 3 = .ptr 0 0 3 ∧ h 4 = .ptr 1 0 2 ∧ h 7 = .int .i64 total ∧ h 8 = .int .i64 i ∧ h 9 = .ptr 2 0 3 ∧ h 11 = lLinks n.links ∧ h 12 = .int .i64 (n.links.length : Int) ∧ h 13 = .int .i64 i) ?_ ?_ ?_
    · rfl
    · exact ⟨h2, h3, h4, h7, rfl, rfl, h11, h12, h13⟩
    clear h2 h3 h4 h7 h11 h12 h13 h14 h
    rintro h ⟨h2, h3, h4, h7, h8, h9, h11, h12, h13⟩
    obtain ⟨rUp, e3, H1⟩ := bsome H1
    by_cases c4 : rUp = true
    case neg =>
      rw [if_neg c4] at H1
      have c4f := (Bool.not_eq_true _).mp c4
      repeat apply TW.seq
      apply TW.region (envs_ok ax) [] [(.bool rUp, stL [.cells true 3 [lNodes n.nodes, lLinks n.links, lEdges n.edges], .cells true 2 [ints f_.links, .int .i64 f_.node], .cells true 3 [.int .i64 ((gx n.links i).frm), .int .i64 ((gx n.links i).to), .int .i64 ((gx n.links i).cap)]])]
      · kernel_rfl
      · simp (maxSteps := 900000) (disch := first | omega | decide | (simp only [lzA, Nat.reduceAdd, Nat.reduceLT]; done) | fail) only [b0, b1, b2, b3, b4, b5, b6, b7, b8, Nat.reduceAdd, Nat.reduceEqDiff, Nat.reduceMul, reduceIte, reduceCtorEq, h3, h4, h8, h2, h9, decide_eq_true c1, c4f, ti26 ax, ti29 ax, encA]
        with_reducible rfl
      · exact ⟨(by have q := Call0.call ((sgraph_Up_ok ax hx k n f_ i rUp e3 ).call (stL [.cells true 3 [lNodes n.nodes, lLinks n.links, lEdges n.edges], .cells true 2 [ints f_.links, .int .i64 f_.node], .cells true 3 [.int .i64 ((gx n.links i).frm), .int .i64 ((gx n.links i).to), .int .i64 ((gx n.links i).cap)]])); (try simp only [c4f] at q); exact q), trivial⟩
      simp only [onT, onTB]
      refine TW.gen (bs := [.cells true 3 [lNodes n.nodes, lLinks n.links, lEdges n.edges], .cells true 2 [ints f_.links, .int .i64 f_.node], .cells true 3 [.int .i64 ((gx n.links i).frm), .int .i64 ((gx n.links i).to), .int .i64 ((gx n.links i).cap)]]) (fun h => h 2 = ints cut ∧ h 3 = .ptr 0 0 3 ∧ h 4 = .ptr 1 0 2 ∧ h 7 = .int .i64 total ∧ h 9 = .ptr 2 0 3 ∧ h 11 = lLinks n.links ∧ h 12 = .int .i64 (n.links.length : Int) ∧ h 13 = .int .i64 i ∧ h 34 = .bool false) ?_ ?_ ?_
      · rfl
      · exact ⟨h2, h3, h4, h7, h9, h11, h12, h13, rfl⟩
      clear h2 h3 h4 h7 h8 h9 h11 h12 h13 h
      rintro h ⟨h2, h3, h4, h7, h9, h11, h12, h13, h34⟩
      repeat apply TW.seq
      refine TW.cond (b := false) ?_ ?_
      · simp only [eT_tmp, eT_const, kT_bool, h34, decide_eq_true c1, c4f, Bool.not_true, Bool.not_false]
      simp only [cond_true, cond_false]
      repeat apply TW.seq
      apply TW.skip
      simp only [onT, onTB]
      repeat apply TW.seq
      apply TW.region (envs_ok ax) [] []
      · kernel_rfl
      · simp (disch := first | omega | decide | (simp only [lzA, Nat.reduceAdd, Nat.reduceLT]; done) | fail) only [b0, b1, b2, b3, b4, b5, b6, b7, b8, Nat.reduceAdd, Nat.reduceEqDiff, Nat.reduceMul, reduceIte, reduceCtorEq, h13, decide_eq_true c1, c4f, encA]
        with_reducible rfl
      · exact trivial
      simp only [onT, onTB]

      refine ⟨m, by omega, _, rfl, by simp only [lzA] <;> omega, ?_, ?_, ?_⟩
      · simp only [ids2A, ids2B, ids2C, reduceIte, Nat.reduceEqDiff, Nat.reduceAdd, Nat.reduceLT, Nat.reduceLeDiff, idsA, idsB, h2, h3, h4, h7, h9, h11, h12, h13, h34]
      · simp only [ids2A, ids2B, ids2C, reduceIte, Nat.reduceEqDiff, Nat.reduceAdd, Nat.reduceLT, Nat.reduceLeDiff, idsA, idsB, h2, h3, h4, h7, h9, h11, h12, h13, h34]
      · exact ⟨total, (IntKind.i64.wrap (i + 1)), H1, (keepT_at (by decide)).trans h2, (keepT_at (by decide)).trans h3, (keepT_at (by decide)).trans h4, (keepT_at (by decide)).trans h7, (keepT_at (by decide)).trans h11, (keepT_at (by decide)).trans h12, (keepT_at (by decide)).trans rfl, (by first | rfl | trivial)⟩
    rw [if_pos c4] at H1
    obtain ⟨rContains, e5, H1⟩ := bsome H1
    by_cases c6 : rContains = true
    case neg =>
      rw [if_neg c6] at H1
      have c6f := (Bool.not_eq_true _).mp c6
      repeat apply TW.seq
      apply TW.region (envs_ok ax) [] [(.bool rUp, stL [.cells true 3 [lNodes n.nodes, lLinks n.links, lEdges n.edges], .cells true 2 [ints f_.links, .int .i64 f_.node], .cells true 3 [.int .i64 ((gx n.links i).frm), .int .i64 ((gx n.links i).to), .int .i64 ((gx n.links i).cap)]]), (.bool rContains, stL [.cells true 3 [lNodes n.nodes, lLinks n.links, lEdges n.edges], .cells true 2 [ints f_.links, .int .i64 f_.node], .cells true 3 [.int .i64 ((gx n.links i).frm), .int .i64 ((gx n.links i).to), .int .i64 ((gx n.links i).cap)]])]
      · kernel_rfl
      · simp (maxSteps := 900000) (disch := first | omega | decide | (simp only [lzA, Nat.reduceAdd, Nat.reduceLT]; done) | fail) only [b0, b1, b2, b3, b4, b5, b6, b7, b8, Nat.reduceAdd, Nat.reduceEqDiff, Nat.reduceMul, reduceIte, reduceCtorEq, h3, h4, h8, h2, h9, decide_eq_true c1, c4, c6f, fa51_0, ti26 ax, ti29 ax, ti3 ax, encA]
        with_reducible rfl
      · exact ⟨(by have q := Call0.call ((sgraph_Up_ok ax hx k n f_ i rUp e3 ).call (stL [.cells true 3 [lNodes n.nodes, lLinks n.links, lEdges n.edges], .cells true 2 [ints f_.links, .int .i64 f_.node], .cells true 3 [.int .i64 ((gx n.links i).frm), .int .i64 ((gx n.links i).to), .int .i64 ((gx n.links i).cap)]])); (try simp only [c4, c6f] at q); exact q), (by have q := Call0.call ((sslices_Contains_ok ax hx k cut ((gx n.links i).frm) rContains e5 ).call (stL [.cells true 3 [lNodes n.nodes, lLinks n.links, lEdges n.edges], .cells true 2 [ints f_.links, .int .i64 f_.node], .cells true 3 [.int .i64 ((gx n.links i).frm), .int .i64 ((gx n.links i).to), .int .i64 ((gx n.links i).cap)]])); (try simp only [c4, c6f] at q); exact q), trivial⟩
      simp only [onT, onTB]
      refine TW.gen (bs := [.cells true 3 [lNodes n.nodes, lLinks n.links, lEdges n.edges], .cells true 2 [ints f_.links, .int .i64 f_.node], .cells true 3 [.int .i64 ((gx n.links i).frm), .int .i64 ((gx n.links i).to), .int .i64 ((gx n.links i).cap)]]) (fun h => h 2 = ints cut ∧ h 3 = .ptr 0 0 3 ∧ h 4 = .ptr 1 0 2 ∧ h 7 = .int .i64 total ∧ h 9 = .ptr 2 0 3 ∧ h 11 = lLinks n.links ∧ h 12 = .int .i64 (n.links.length : Int) ∧ h 13 = .int .i64 i ∧ h 34 = .bool false) ?_ ?_ ?_
      · rfl
      · exact ⟨h2, h3, h4, h7, h9, h11, h12, h13, rfl⟩
      clear h2 h3 h4 h7 h8 h9 h11 h12 h13 h
      rintro h ⟨h2, h3, h4, h7, h9, h11, h12, h13, h34⟩
      repeat apply TW.seq
      refine TW.cond (b := false) ?_ ?_
      · simp only [eT_tmp, eT_const, kT_bool, h34, decide_eq_true c1, c4, c6f, Bool.not_true, Bool.not_false]
      simp only [cond_true, cond_false]
      repeat apply TW.seq
      apply TW.skip
      simp only [onT, onTB]
      repeat apply TW.seq
      apply TW.region (envs_ok ax) [] []
      · kernel_rfl
      · simp (disch := first | omega | decide | (simp only [lzA, Nat.reduceAdd, Nat.reduceLT]; done) | fail) only [b0, b1, b2, b3, b4, b5, b6, b7, b8, Nat.reduceAdd, Nat.reduceEqDiff, Nat.reduceMul, reduceIte, reduceCtorEq, h13, decide_eq_true c1, c4, c6f, encA]
        with_reducible rfl
      · exact trivial
      simp only [onT, onTB]

      refine ⟨m, by omega, _, rfl, by simp only [lzA] <;> omega, ?_, ?_, ?_⟩
      · simp only [ids2A, ids2B, ids2C, reduceIte, Nat.reduceEqDiff, Nat.reduceAdd, Nat.reduceLT, Nat.reduceLeDiff, idsA, idsB, h2, h3, h4, h7, h9, h11, h12, h13, h34]
      · simp only [ids2A, ids2B, ids2C, reduceIte, Nat.reduceEqDiff, Nat.reduceAdd, Nat.reduceLT, Nat.reduceLeDiff, idsA, idsB, h2, h3, h4, h7, h9, h11, h12, h13, h34]
      · exact ⟨total, (IntKind.i64.wrap (i + 1)), H1, (keepT_at (by decide)).trans h2, (keepT_at (by decide)).trans h3, (keepT_at (by decide)).trans h4, (keepT_at (by decide)).trans h7, (keepT_at (by decide)).trans h11, (keepT_at (by decide)).trans h12, (keepT_at (by decide)).trans rfl, (by first | rfl | trivial)⟩
    rw [if_pos c6] at H1
    obtain ⟨rContains2, e7, H1⟩ := bsome H1
    repeat apply TW.seq
    apply TW.region (envs_ok ax) [] [(.bool rUp, stL [.cells true 3 [lNodes n.nodes, lLinks n.links, lEdges n.edges], .cells true 2 [ints f_.links, .int .i64 f_.node], .cells true 3 [.int .i64 ((gx n.links i).frm), .int .i64 ((gx n.links i).to), .int .i64 ((gx n.links i).cap)]]), (.bool rContains, stL [.cells true 3 [lNodes n.nodes, lLinks n.links, lEdges n.edges], .cells true 2 [ints f_.links, .int .i64 f_.node], .cells true 3 [.int .i64 ((gx n.links i).frm), .int .i64 ((gx n.links i).to), .int .i64 ((gx n.links i).cap)]]), (.bool rContains2, stL [.cells true 3 [lNodes n.nodes, lLinks n.links, lEdges n.edges], .cells true 2 [ints f_.links, .int .i64 f_.node], .cells true 3 [.int .i64 ((gx n.links i).frm), .int .i64 ((gx n.links i).to), .int .i64 ((gx n.links i).cap)]])]
    · kernel_rfl
    · simp (maxSteps := 900000) (disch := first | omega | decide | (simp only [lzA, Nat.reduceAdd, Nat.reduceLT]; done) | fail) only [b0, b1, b2, b3, b4, b5, b6, b7, b8, Nat.reduceAdd, Nat.reduceEqDiff, Nat.reduceMul, reduceIte, reduceCtorEq, h3, h4, h8, h2, h9, decide_eq_true c1, c4, c6, fa51_0, fa51_1, ti26 ax, ti29 ax, ti3 ax, encA]
      with_reducible rfl
    · exact ⟨(by have q := Call0.call ((sgraph_Up_ok ax hx k n f_ i rUp e3 ).call (stL [.cells true 3 [lNodes n.nodes, lLinks n.links, lEdges n.edges], .cells true 2 [ints f_.links, .int .i64 f_.node], .cells true 3 [.int .i64 ((gx n.links i).frm), .int .i64 ((gx n.links i).to), .int .i64 ((gx n.links i).cap)]])); (try simp only [c4, c6] at q); exact q), (by have q := Call0.call ((sslices_Contains_ok ax hx k cut ((gx n.links i).frm) rContains e5 ).call (stL [.cells true 3 [lNodes n.nodes, lLinks n.links, lEdges n.edges], .cells true 2 [ints f_.links, .int .i64 f_.node], .cells true 3 [.int .i64 ((gx n.links i).frm), .int .i64 ((gx n.links i).to), .int .i64 ((gx n.links i).cap)]])); (try simp only [c4, c6] at q); exact q), (by have q := Call0.call ((sslices_Contains_ok ax hx k cut ((gx n.links i).to) rContains2 e7 ).call (stL [.cells true 3 [lNodes n.nodes, lLinks n.links, lEdges n.edges], .cells true 2 [ints f_.links, .int .i64 f_.node], .cells true 3 [.int .i64 ((gx n.links i).frm), .int .i64 ((gx n.links i).to), .int .i64 ((gx n.links i).cap)]])); (try simp only [c4, c6] at q); exact q), trivial⟩
    simp only [onT, onTB]
    refine TW.gen (bs := [.cells true 3 [lNodes n.nodes, lLinks n.links, lEdges n.edges], .cells true 2 [ints f_.links, .int .i64 f_.node], .cells true 3 [.int .i64 ((gx n.links i).frm), .int .i64 ((gx n.links i).to), .int .i64 ((gx n.links i).cap)]]) (fun h => h 2 = ints cut ∧ h 3 = .ptr 0 0 3 ∧ h 4 = .ptr 1 0 2 ∧ h 7 = .int .i64 total ∧ h 9 = .ptr 2 0 3 ∧ h 11 = lLinks n.links ∧ h 12 = .int .i64 (n.links.length : Int) ∧ h 13 = .int .i64 i ∧ h 34 = .bool (!rContains2)) ?_ ?_ ?_
    · rfl
    · exact ⟨h2, h3, h4, h7, h9, h11, h12, h13, rfl⟩
    clear h2 h3 h4 h7 h8 h9 h11 h12 h13 h
    rintro h ⟨h2, h3, h4, h7, h9, h11, h12, h13, h34⟩
    by_cases c8 : rContains2 = true
    case neg =>
      rw [if_neg c8] at H1
      have c8f := (Bool.not_eq_true _).mp c8
      repeat apply TW.seq
      refine TW.cond (b := true) ?_ ?_
      · simp only [eT_tmp, eT_const, kT_bool, h34, decide_eq_true c1, c4, c6, c8f, Bool.not_true, Bool.not_false]
      simp only [cond_true, cond_false]
      repeat apply TW.seq
      apply TW.region (envs_ok ax) [] []
      · kernel_rfl
      · simp (disch := first | omega | decide | (simp only [lzA, Nat.reduceAdd, Nat.reduceLT]; done) | fail) only [b0, b1, b2, b3, b4, b5, b6, b7, b8, Nat.reduceAdd, Nat.reduceEqDiff, Nat.reduceMul, reduceIte, reduceCtorEq, h7, h9, decide_eq_true c1, c4, c6, c8f, fa51_2, ti3 ax, encA]
        with_reducible rfl
      · exact trivial
      simp only [onT, onTB]
      refine TW.gen (bs := [.cells true 3 [lNodes n.nodes, lLinks n.links, lEdges n.edges], .cells true 2 [ints f_.links, .int .i64 f_.node], .cells true 3 [.int .i64 ((gx n.links i).frm), .int .i64 ((gx n.links i).to), .int .i64 ((gx n.links i).cap)]]) (fun h => h 2 = ints cut ∧ h 3 = .ptr 0 0 3 ∧ h 4 = .ptr 1 0 2 ∧ h 7 = .int .i64 (IntKind.i64.wrap (total + ((gx n.links i).cap))) ∧ h 11 = lLinks n.links ∧ h 12 = .int .i64 (n.links.length : Int) ∧ h 13 = .int .i64 i) ?_ ?_ ?_
      · rfl
      · exact ⟨h2, h3, h4, rfl, h11, h12, h13⟩
      clear h2 h3 h4 h7 h9 h11 h12 h13 h34 h
      rintro h ⟨h2, h3, h4, h7, h11, h12, h13⟩
      repeat apply TW.seq
      apply TW.region (envs_ok ax) [] []
      · kernel_rfl
      · simp (disch := first | omega | decide | (simp only [lzA, Nat.reduceAdd, Nat.reduceLT]; done) | fail) only [b0, b1, b2, b3, b4, b5, b6, b7, b8, Nat.reduceAdd, Nat.reduceEqDiff, Nat.reduceMul, reduceIte, reduceCtorEq, h13, decide_eq_true c1, c4, c6, c8f, encA]
        with_reducible rfl
      · exact trivial
      simp only [onT, onTB]

      refine ⟨m, by omega, _, rfl, by simp only [lzA] <;> omega, ?_, ?_, ?_⟩
      · simp only [ids2A, ids2B, ids2C, reduceIte, Nat.reduceEqDiff, Nat.reduceAdd, Nat.reduceLT, Nat.reduceLeDiff, idsA, idsB, h2, h3, h4, h7, h11, h12, h13]
      · simp only [ids2A, ids2B, ids2C, reduceIte, Nat.reduceEqDiff, Nat.reduceAdd, Nat.reduceLT, Nat.reduceLeDiff, idsA, idsB, h2, h3, h4, h7, h11, h12, h13]
      · exact ⟨(IntKind.i64.wrap (total + ((gx n.links i).cap))), (IntKind.i64.wrap (i + 1)), H1, (keepT_at (by decide)).trans h2, (keepT_at (by decide)).trans h3, (keepT_at (by decide)).trans h4, (keepT_at (by decide)).trans h7, (keepT_at (by decide)).trans h11, (keepT_at (by decide)).trans h12, (keepT_at (by decide)).trans rfl, (by first | rfl | trivial)⟩
    rw [if_pos c8] at H1
    repeat apply TW.seq
    refine TW.cond (b := false) ?_ ?_
    · simp only [eT_tmp, eT_const, kT_bool, h34, decide_eq_true c1, c4, c6, c8, Bool.not_true, Bool.not_false]
    simp only [cond_true, cond_false]
    repeat apply TW.seq
    apply TW.skip
    simp only [onT, onTB]
    repeat apply TW.seq
    apply TW.region (envs_ok ax) [] []
    · kernel_rfl
    · simp (disch := first | omega | decide | (simp only [lzA, Nat.reduceAdd, Nat.reduceLT]; done) | fail) only [b0, b1, b2, b3, b4, b5, b6, b7, b8, Nat.reduceAdd, Nat.reduceEqDiff, Nat.reduceMul, reduceIte, reduceCtorEq, h13, decide_eq_true c1, c4, c6, c8, encA]
      with_reducible rfl
    · exact trivial
    simp only [onT, onTB]

    refine ⟨m, by omega, _, rfl, by simp only [lzA] <;> omega, ?_, ?_, ?_⟩
    · simp only [ids2A, ids2B, ids2C, reduceIte, Nat.reduceEqDiff, Nat.reduceAdd, Nat.reduceLT, Nat.reduceLeDiff, idsA, idsB, h2, h3, h4, h7, h9, h11, h12, h13, h34]
    · simp only [ids2A, ids2B, ids2C, reduceIte, Nat.reduceEqDiff, Nat.reduceAdd, Nat.reduceLT, Nat.reduceLeDiff, idsA, idsB, h2, h3, h4, h7, h9, h11, h12, h13, h34]
    · exact ⟨total, (IntKind.i64.wrap (i + 1)), H1, (keepT_at (by decide)).trans h2, (keepT_at (by decide)).trans h3, (keepT_at (by decide)).trans h4, (keepT_at (by decide)).trans h7, (keepT_at (by decide)).trans h11, (keepT_at (by decide)).trans h12, (keepT_at (by decide)).trans rfl, (by first | rfl | trivial)⟩
  clear h2 h3 h4 h7 h11 h12 h13 h
  rintro h bs ⟨h7, rfl⟩
  simp only [onT, onTB]
  repeat apply TW.seq
  apply TW.region (envs_ok ax) [] []
  · kernel_rfl
  · simp (disch := first | omega | decide | (simp only [lzA, Nat.reduceAdd, Nat.reduceLT]; done) | fail) only [b0, b1, b2, b3, b4, b5, b6, b7, b8, Nat.reduceAdd, Nat.reduceEqDiff, Nat.reduceMul, reduceIte, reduceCtorEq, h7, encA]
    with_reducible rfl
  · exact trivial
  simp only [onT, onTB]
  refine TW.gen (bs := [.cells true 3 [lNodes n.nodes, lLinks n.links, lEdges n.edges], .cells true 2 [ints f_.links, .int .i64 f_.node]]) (fun h => h 6 = .int .i64 s_) ?_ ?_ ?_
  · rfl
  · exact rfl
  clear h7 h
  rintro h h6
  apply TW.ret
  cases H
  refine ⟨.inr rfl, ?_⟩
  first | (simp only [Try.results18, resT, h6]; done) | (simp only [Try.results18, resT, h6]; rfl)
def sflow_Cost_L0 (k : Nat) (prices : List Int) (flow : List Int) : Nat → Int → Int → Option Int
  | 0, _, _ => none
  | m + 1, total, i => (if i < (prices.length : Int) then (if (0 : Int) ≤ i ∧ i < (prices.length : Int) then (if (0 : Int) ≤ i ∧ i < (flow.length : Int) then sflow_Cost_L0 k prices flow m (IntKind.i64.wrap (total + (IntKind.i64.wrap ((gx prices i) * (gx flow i))))) (IntKind.i64.wrap (i + 1)) else none) else none) else some total)
def sflow_Cost (k : Nat) (prices : List Int) (flow : List Int) : Option Int := ((sflow_Cost_L0 k prices flow k 0 0 : Option Int).bind fun s_ => some s_)
set_option maxHeartbeats 8000000 in
theorem sflow_Cost_ok (ax : Axs) (hx : Plain ax) (k : Nat) (prices : List Int) (flow : List Int) (v : Int) (H : sflow_Cost k prices flow = some v) : Pure Try.prog (EE ax) [] 21 [ints prices, ints flow] (.int .i64 v) := by
  rw [sflow_Cost] at H
  refine Pure.enter (fn := Try.f21) 25 (hx.no _ (by decide)) (fn21 ax) rfl Try.ntmps21 (by decide) (by simp) (by simp only [ids2B, ids2C, idsA, idsB, Bool.and_self]) (by first | rfl | simp only [ids2B, ids2C, idsA, idsB, Bool.and_self] | simp only [tupT, ids2B, ids2C, idsA, idsB, Bool.and_self]) ?_
  simp only [argT_cons, argT_nil, Nat.reduceAdd]
  refine TW.gen (bs := []) (fun h => h 0 = ints prices ∧ h 1 = ints flow) rfl ?_ ?_
  · exact ⟨rfl, rfl⟩
  rintro h ⟨h0, h1⟩
  repeat apply TW.seq
  apply TW.region (envs_ok ax) [] []
  · kernel_rfl
  · simp (disch := first | omega | decide | (simp only [lzA, Nat.reduceAdd, Nat.reduceLT]; done) | fail) only [b0, b1, b2, b3, b4, b5, b6, b7, b8, Nat.reduceAdd, Nat.reduceEqDiff, Nat.reduceMul, reduceIte, reduceCtorEq, encA]
    with_reducible rfl
  · exact trivial
  simp only [onT, onTB]
  refine TW.gen (bs := []) (fun h => h 0 = ints prices ∧ h 1 = ints flow) ?_ ?_ ?_
  · rfl
  · exact ⟨h0, h1⟩
  clear h0 h1 h
  rintro h ⟨h0, h1⟩
  repeat apply TW.seq
  apply TW.region (envs_ok ax) [] []
  · kernel_rfl
  · simp (disch := first | omega | decide | (simp only [lzA, Nat.reduceAdd, Nat.reduceLT]; done) | fail) only [b0, b1, b2, b3, b4, b5, b6, b7, b8, Nat.reduceAdd, Nat.reduceEqDiff, Nat.reduceMul, reduceIte, reduceCtorEq, encA]
    with_reducible rfl
  · exact trivial
  simp only [onT, onTB]
  refine TW.gen (bs := []) (fun h => h 0 = ints prices ∧ h 1 = ints flow ∧ h 5 = .int .i64 0) ?_ ?_ ?_
  · rfl
  · exact ⟨h0, h1, rfl⟩
  clear h0 h1 h
  rintro h ⟨h0, h1, h5⟩
  repeat apply TW.seq
  apply TW.region (envs_ok ax) [] []
  · kernel_rfl
  · simp (disch := first | omega | decide | (simp only [lzA, Nat.reduceAdd, Nat.reduceLT]; done) | fail) only [b0, b1, b2, b3, b4, b5, b6, b7, b8, Nat.reduceAdd, Nat.reduceEqDiff, Nat.reduceMul, reduceIte, reduceCtorEq, h0, ti27 ax, encA]
    with_reducible rfl
  · exact trivial
  simp only [onT, onTB]
  refine TW.gen (bs := []) (fun h => h 1 = ints flow ∧ h 5 = .int .i64 0 ∧ h 8 = ints prices ∧ h 9 = .int .i64 (prices.length : Int) ∧ h 10 = .int .i64 0) ?_ ?_ ?_
  · rfl
  · exact ⟨h1, h5, rfl, rfl, rfl⟩
  clear h0 h1 h5 h
  rintro h ⟨h1, h5, h8, h9, h10⟩
  obtain ⟨s_, H1, H⟩ := bsome H
  repeat apply TW.seq
  refine TW.cutN [5] 0 (by simp only [lzA] <;> omega) (fun h bs => h 5 = .int .i64 s_ ∧ bs = []) ?_ ?_
  · skip
    repeat apply TW.seq
    apply TW.block
    repeat apply TW.seq
    refine TW.loopT [1, 5, 8, 9, 10] (fun m h bs => ∃ (total : Int) (i : Int), sflow_Cost_L0 k prices flow m total i = some s_ ∧ h 1 = ints flow ∧ h 5 = .int .i64 total ∧ h 8 = ints prices ∧ h 9 = .int .i64 (prices.length : Int) ∧ h 10 = .int .i64 i ∧ bs = []) ?_ k _ _ ?_
    rotate_left
    · exact ⟨0, 0, H1, (by first | exact h1 | (rw [h1]; rfl)), (by first | exact h5 | (rw [h5]; rfl)), (by first | exact h8 | (rw [h8]; rfl)), (by first | exact h9 | (rw [h9]; rfl)), (by first | exact h10 | (rw [h10]; rfl)), rfl⟩
    clear h1 h5 h8 h9 h10 h
    clear H1
    rintro m h bs ⟨total, i, H1, h1, h5, h8, h9, h10, rfl⟩
    rcases m with _ | m
    · rw [sflow_Cost_L0] at H1; cases H1
    rw [sflow_Cost_L0] at H1
    repeat apply TW.seq
    apply TW.region (envs_ok ax) [] []
    · kernel_rfl
    · simp (disch := first | omega | decide | (simp only [lzA, Nat.reduceAdd, Nat.reduceLT]; done) | fail) only [b0, b1, b2, b3, b4, b5, b6, b7, b8, Nat.reduceAdd, Nat.reduceEqDiff, Nat.reduceMul, reduceIte, reduceCtorEq, h10, h9, encA]
      with_reducible rfl
    · exact trivial
    simp only [onT, onTB]
    refine TW.gen (bs := []) (fun h => h 1 = ints flow ∧ h 5 = .int .i64 total ∧ h 8 = ints prices ∧ h 9 = .int .i64 (prices.length : Int) ∧ h 10 = .int .i64 i ∧ h 11 = .bool (decide (i < (prices.length : Int)))) ?_ ?_ ?_
    · rfl
    · exact ⟨h1, h5, h8, h9, h10, rfl⟩
    clear h1 h5 h8 h9 h10 h
    rintro h ⟨h1, h5, h8, h9, h10, h11⟩
    by_cases c1 : i < (prices.length : Int)
    case neg =>
      rw [if_neg c1] at H1
      repeat apply TW.seq
      refine TW.cond (b := false) ?_ ?_
      · simp only [eT_tmp, eT_const, kT_bool, h11, decide_eq_false c1, Bool.not_true, Bool.not_false]
      simp only [cond_true, cond_false]
      apply TW.exit
      simp (disch := decide) only [onT, onTB, Nat.beq_refl, beq_no, cond_true, cond_false]
      cases H1
      refine ⟨_, rfl, by simp only [lzA] <;> omega, ?_, ?_, ?_⟩
      · simp only [ids2A, ids2B, ids2C, reduceIte, Nat.reduceEqDiff, Nat.reduceAdd, Nat.reduceLT, Nat.reduceLeDiff, idsA, idsB, h1, h5, h8, h9, h10, h11]
      · simp only [ids2A, ids2B, ids2C, reduceIte, Nat.reduceEqDiff, Nat.reduceAdd, Nat.reduceLT, Nat.reduceLeDiff, idsA, idsB, h1, h5, h8, h9, h10, h11]
      · exact ⟨(keepT_at (by decide)).trans (by first | exact h5 | (rw [h5]; rfl)), (by first | rfl | trivial)⟩
    rw [if_pos c1] at H1
    repeat apply TW.seq
    refine TW.cond (b := true) ?_ ?_
    · simp only [eT_tmp, eT_const, kT_bool, h11, decide_eq_true c1, Bool.not_true, Bool.not_false]
    simp only [cond_true, cond_false]
    repeat apply TW.seq
    apply TW.skip
    simp only [onT, onTB]
    repeat apply TW.seq
    apply TW.block
    by_cases g2 : (0 : Int) ≤ i ∧ i < (prices.length : Int)
    case neg => rw [if_neg g2] at H1; cases H1
    rw [if_pos g2] at H1
    repeat apply TW.seq
    apply TW.region (envs_ok ax) [] []
    · kernel_rfl
    · simp (disch := first | omega | decide | (simp only [lzA, Nat.reduceAdd, Nat.reduceLT]; done) | fail) only [b0, b1, b2, b3, b4, b5, b6, b7, b8, Nat.reduceAdd, Nat.reduceEqDiff, Nat.reduceMul, reduceIte, reduceCtorEq, h10, h8, decide_eq_true c1, gx_some g2, ti27 ax, ti3 ax, encA]
      with_reducible rfl
    · exact trivial
    simp only [onT, onTB]
    refine TW.gen (bs := []) (fun h => h 1 = ints flow ∧ h 5 = .int .i64 total ∧ h 6 = .int .i64 i ∧ h 7 = .int .i64 (gx prices i) ∧ h 8 = ints prices ∧ h 9 = .int .i64 (prices.length : Int) ∧ h 10 = .int .i64 i) ?_ ?_ ?_
    · rfl
    · exact ⟨h1, h5, rfl, rfl, h8, h9, h10⟩
    clear h1 h5 h8 h9 h10 h11 h
    rintro h ⟨h1, h5, h6, h7, h8, h9, h10⟩
    by_cases g3 : (0 : Int) ≤ i ∧ i < (flow.length : Int)
    case neg => rw [if_neg g3] at H1; cases H1
    rw [if_pos g3] at H1
    repeat apply TW.seq
    apply TW.region (envs_ok ax) [] []
    · kernel_rfl
    · simp (disch := first | omega | decide | (simp only [lzA, Nat.reduceAdd, Nat.reduceLT]; done) | fail) only [b0, b1, b2, b3, b4, b5, b6, b7, b8, Nat.reduceAdd, Nat.reduceEqDiff, Nat.reduceMul, reduceIte, reduceCtorEq, h5, h7, h1, h6, decide_eq_true c1, gx_some g3, ti27 ax, ti3 ax, encA]
      with_reducible rfl
    · exact trivial
    simp only [onT, onTB]
    refine TW.gen (bs := []) (fun h => h 1 = ints flow ∧ h 5 = .int .i64 (IntKind.i64.wrap (total + (IntKind.i64.wrap ((gx prices i) * (gx flow i))))) ∧ h 8 = ints prices ∧ h 9 = .int .i64 (prices.length : Int) ∧ h 10 = .int .i64 i) ?_ ?_ ?_
    · rfl
    · exact ⟨h1, rfl, h8, h9, h10⟩
    clear h1 h5 h6 h7 h8 h9 h10 h
    rintro h ⟨h1, h5, h8, h9, h10⟩
    repeat apply TW.seq
    apply TW.region (envs_ok ax) [] []
    · kernel_rfl
    · simp (disch := first | omega | decide | (simp only [lzA, Nat.reduceAdd, Nat.reduceLT]; done) | fail) only [b0, b1, b2, b3, b4, b5, b6, b7, b8, Nat.reduceAdd, Nat.reduceEqDiff, Nat.reduceMul, reduceIte, reduceCtorEq, h10, decide_eq_true c1, encA]
      with_reducible rfl
    · exact trivial
    simp only [onT, onTB]

    refine ⟨m, by omega, _, rfl, by simp only [lzA] <;> omega, ?_, ?_, ?_⟩
    · simp only [ids2A, ids2B, ids2C, reduceIte, Nat.reduceEqDiff, Nat.reduceAdd, Nat.reduceLT, Nat.reduceLeDiff, idsA, idsB, h1, h5, h8, h9, h10]
    · simp only [ids2A, ids2B, ids2C, reduceIte, Nat.reduceEqDiff, Nat.reduceAdd, Nat.reduceLT, Nat.reduceLeDiff, idsA, idsB, h1, h5, h8, h9, h10]
    · exact ⟨(IntKind.i64.wrap (total + (IntKind.i64.wrap ((gx prices i) * (gx flow i))))), (IntKind.i64.wrap (i + 1)), H1, (keepT_at (by decide)).trans h1, (keepT_at (by decide)).trans h5, (keepT_at (by decide)).trans h8, (keepT_at (by decide)).trans h9, (keepT_at (by decide)).trans rfl, (by first | rfl | trivial)⟩
  clear h1 h5 h8 h9 h10 h
  rintro h bs ⟨h5, rfl⟩
  simp only [onT, onTB]
  repeat apply TW.seq
  apply TW.region (envs_ok ax) [] []
  · kernel_rfl
  · simp (disch := first | omega | decide | (simp only [lzA, Nat.reduceAdd, Nat.reduceLT]; done) | fail) only [b0, b1, b2, b3, b4, b5, b6, b7, b8, Nat.reduceAdd, Nat.reduceEqDiff, Nat.reduceMul, reduceIte, reduceCtorEq, h5, encA]
    with_reducible rfl
  · exact trivial
  simp only [onT, onTB]
  refine TW.gen (bs := []) (fun h => h 4 = .int .i64 s_) ?_ ?_ ?_
  · rfl
  · exact rfl
  clear h5 h
  rintro h h4
  apply TW.ret
  cases H
  refine ⟨.inr rfl, ?_⟩
  first | (simp only [Try.results21, resT, h4]; done) | (simp only [Try.results21, resT, h4]; rfl)
def sflow_Check_1 (k : Nat) (x : Int) : Option Bool := some (decide (x ≠ 0))
set_option maxHeartbeats 8000000 in
theorem sflow_Check_1_ok (ax : Axs) (hx : Plain ax) (k : Nat) (x : Int) (v : Bool) (H : sflow_Check_1 k x = some v) : Pure Try.prog (EE ax) [] 37 [.int .i64 x] (.bool v) := by
  rw [sflow_Check_1] at H
  refine Pure.enter (fn := Try.f37) 5 (hx.no _ (by decide)) (fn37 ax) rfl Try.ntmps37 (by decide) (by simp) (by simp only [ids2B, ids2C, idsA, idsB, Bool.and_self]) (by first | rfl | simp only [ids2B, ids2C, idsA, idsB, Bool.and_self] | simp only [tupT, ids2B, ids2C, idsA, idsB, Bool.and_self]) ?_
  simp only [argT_cons, argT_nil, Nat.reduceAdd]
  refine TW.gen (bs := []) (fun h => h 0 = .int .i64 x) rfl ?_ ?_
  · exact rfl
  rintro h h0
  repeat apply TW.seq
  apply TW.region (envs_ok ax) [] []
  · kernel_rfl
  · simp (disch := first | omega | decide | (simp only [lzA, Nat.reduceAdd, Nat.reduceLT]; done) | fail) only [b0, b1, b2, b3, b4, b5, b6, b7, b8, Nat.reduceAdd, Nat.reduceEqDiff, Nat.reduceMul, reduceIte, reduceCtorEq, encA]
    with_reducible rfl
  · exact trivial
  simp only [onT, onTB]
  refine TW.gen (bs := []) (fun h => h 0 = .int .i64 x) ?_ ?_ ?_
  · rfl
  · exact h0
  clear h0 h
  rintro h h0
  repeat apply TW.seq
  apply TW.region (envs_ok ax) [] []
  · kernel_rfl
  · simp (disch := first | omega | decide | (simp only [lzA, Nat.reduceAdd, Nat.reduceLT]; done) | fail) only [b0, b1, b2, b3, b4, b5, b6, b7, b8, Nat.reduceAdd, Nat.reduceEqDiff, Nat.reduceMul, reduceIte, reduceCtorEq, h0, encA]
    with_reducible rfl
  · exact trivial
  simp only [onT, onTB]
  refine TW.gen (bs := []) (fun h => h 2 = .bool (decide (x ≠ 0))) ?_ ?_ ?_
  · rfl
  · exact rfl
  clear h0 h
  rintro h h2
  apply TW.ret
  cases H
  refine ⟨.inr rfl, ?_⟩
  first | (simp only [Try.results37, resT, h2]; done) | (simp only [Try.results37, resT, h2]; rfl)
def sflow_bounded_1 (k : Nat) (x : Int) (fv : Int) : Option Bool := (if x < 0 then some true else some (decide (fv < x)))
set_option maxHeartbeats 8000000 in
theorem sflow_bounded_1_ok (ax : Axs) (hx : Plain ax) (k : Nat) (x : Int) (fv : Int) (v : Bool) (H : sflow_bounded_1 k x fv = some v) : Pure Try.prog (EE ax) [] 65 [.int .i64 x, .cp [.int .i64 fv]] (.bool v) := by
  rw [sflow_bounded_1] at H
  refine Pure.enter (fn := Try.f65) 11 (hx.no _ (by decide)) (fn65 ax) rfl Try.ntmps65 (by decide) (by simp) (by simp only [ids2B, ids2C, idsA, idsB, Bool.and_self]) (by first | rfl | simp only [ids2B, ids2C, idsA, idsB, Bool.and_self] | simp only [tupT, ids2B, ids2C, idsA, idsB, Bool.and_self]) ?_
  simp only [argT_cons, argT_nil, Nat.reduceAdd]
  refine TW.gen (bs := []) (fun h => h 0 = .int .i64 x ∧ h 1 = .cp [.int .i64 fv]) rfl ?_ ?_
  · exact ⟨rfl, rfl⟩
  rintro h ⟨h0, h1⟩
  repeat apply TW.seq
  apply TW.region (envs_ok ax) [] []
  · kernel_rfl
  · simp (disch := first | omega | decide | (simp only [lzA, Nat.reduceAdd, Nat.reduceLT]; done) | fail) only [b0, b1, b2, b3, b4, b5, b6, b7, b8, Nat.reduceAdd, Nat.reduceEqDiff, Nat.reduceMul, reduceIte, reduceCtorEq, encA]
    with_reducible rfl
  · exact trivial
  simp only [onT, onTB]
  refine TW.gen (bs := []) (fun h => h 0 = .int .i64 x ∧ h 1 = .cp [.int .i64 fv]) ?_ ?_ ?_
  · rfl
  · exact ⟨h0, h1⟩
  clear h0 h1 h
  rintro h ⟨h0, h1⟩
  by_cases c1 : x < 0
  case neg =>
    rw [if_neg c1] at H
    repeat apply TW.seq
    apply TW.region (envs_ok ax) [] []
    · kernel_rfl
    · simp (disch := first | omega | decide | (simp only [lzA, Nat.reduceAdd, Nat.reduceLT]; done) | fail) only [b0, b1, b2, b3, b4, b5, b6, b7, b8, Nat.reduceAdd, Nat.reduceEqDiff, Nat.reduceMul, reduceIte, reduceCtorEq, h0, h1, decide_eq_false c1, ti3 ax, encA]
      with_reducible rfl
    · exact trivial
    simp only [onT, onTB]
    refine TW.gen (bs := []) (fun h => h 3 = .bool (decide (fv < x))) ?_ ?_ ?_
    · rfl
    · exact rfl
    clear h0 h1 h
    rintro h h3
    apply TW.ret
    cases H
    refine ⟨.inr rfl, ?_⟩
    first | (simp only [Try.results65, resT, h3]; done) | (simp only [Try.results65, resT, h3]; rfl)
  rw [if_pos c1] at H
  repeat apply TW.seq
  apply TW.region (envs_ok ax) [] []
  · kernel_rfl
  · simp (disch := first | omega | decide | (simp only [lzA, Nat.reduceAdd, Nat.reduceLT]; done) | fail) only [b0, b1, b2, b3, b4, b5, b6, b7, b8, Nat.reduceAdd, Nat.reduceEqDiff, Nat.reduceMul, reduceIte, reduceCtorEq, h0, h1, decide_eq_true c1, encA]
    with_reducible rfl
  · exact trivial
  simp only [onT, onTB]
  refine TW.gen (bs := []) (fun h => h 3 = .bool true) ?_ ?_ ?_
  · rfl
  · exact rfl
  clear h0 h1 h
  rintro h h3
  apply TW.ret
  cases H
  refine ⟨.inr rfl, ?_⟩
  first | (simp only [Try.results65, resT, h3]; done) | (simp only [Try.results65, resT, h3]; rfl)
def sflow_bounded (k : Nat) (l : List Int) (count : Int) (most : Int) : Option Bool := (if (l.length : Int) = count then ((sslices_ContainsFunc k l (fun y => sflow_bounded_1 k y most)).bind fun rContainsFunc => some (!rContainsFunc)) else some false)
set_option maxHeartbeats 8000000 in
theorem sflow_bounded_ok (ax : Axs) (hx : Plain ax) (k : Nat) (l : List Int) (count : Int) (most : Int) (v : Bool) (H : sflow_bounded k l count most = some v) : Pure Try.prog (EE ax) [] 42 [ints l, .int .i64 count, .int .i64 most] (.bool v) := by
  rw [sflow_bounded] at H
  refine Pure.enter (fn := Try.f42) 17 (hx.no _ (by decide)) (fn42 ax) rfl Try.ntmps42 (by decide) (by simp) (by simp only [ids2B, ids2C, idsA, idsB, Bool.and_self]) (by first | rfl | simp only [ids2B, ids2C, idsA, idsB, Bool.and_self] | simp only [tupT, ids2B, ids2C, idsA, idsB, Bool.and_self]) ?_
  simp only [argT_cons, argT_nil, Nat.reduceAdd]
  refine TW.gen (bs := []) (fun h => h 0 = ints l ∧ h 1 = .int .i64 count ∧ h 2 = .int .i64 most) rfl ?_ ?_
  · exact ⟨rfl, rfl, rfl⟩
  rintro h ⟨h0, h1, h2⟩
  repeat apply TW.seq
  apply TW.region (envs_ok ax) [] []
  · kernel_rfl
  · simp (disch := first | omega | decide | (simp only [lzA, Nat.reduceAdd, Nat.reduceLT]; done) | fail) only [b0, b1, b2, b3, b4, b5, b6, b7, b8, Nat.reduceAdd, Nat.reduceEqDiff, Nat.reduceMul, reduceIte, reduceCtorEq, h2, encA]
    with_reducible rfl
  · exact trivial
  simp only [onT, onTB]
  refine TW.freezeP (b := 0) (M := 1) (z := true) (l := [.int .i64 most]) 5 (by first | exact h5 | rfl | (simp only [gsA, Nat.reduceEqDiff, reduceIte, h2]; done)) (by rfl) ?_
  rw [st_set _ _ _ (by simp only [lzA] <;> omega)]
  simp only [scA]
  refine TW.gen (bs := [.gone]) (fun h => h 0 = ints l ∧ h 1 = .int .i64 count ∧ h 5 = .cp [.int .i64 most]) ?_ ?_ ?_
  · rfl
  · exact ⟨h0, h1, rfl⟩
  clear h0 h1 h2 h
  rintro h ⟨h0, h1, h5⟩
  by_cases c1 : (l.length : Int) = count
  case neg =>
    rw [if_neg c1] at H
    repeat apply TW.seq
    apply TW.region (envs_ok ax) [] []
    · kernel_rfl
    · simp (disch := first | omega | decide | (simp only [lzA, Nat.reduceAdd, Nat.reduceLT]; done) | fail) only [b0, b1, b2, b3, b4, b5, b6, b7, b8, Nat.reduceAdd, Nat.reduceEqDiff, Nat.reduceMul, reduceIte, reduceCtorEq, h0, h1, h5, decide_eq_false c1, ti27 ax, encA]
      with_reducible rfl
    · exact trivial
    simp only [onT, onTB]
    refine TW.gen (bs := [.gone]) (fun h => h 6 = .bool false) ?_ ?_ ?_
    · rfl
    · exact rfl
    clear h0 h1 h5 h
    rintro h h6
    apply TW.ret
    cases H
    refine ⟨.inr rfl, ?_⟩
    first | (simp only [Try.results42, resT, h6]; done) | (simp only [Try.results42, resT, h6]; rfl)
  rw [if_pos c1] at H
  obtain ⟨rContainsFunc, e2, H⟩ := bsome H
  repeat apply TW.seq
  apply TW.region (envs_ok ax) [] [(.bool rContainsFunc, stL [.gone])]
  · kernel_rfl
  · simp (disch := first | omega | decide | (simp only [lzA, Nat.reduceAdd, Nat.reduceLT]; done) | fail) only [b0, b1, b2, b3, b4, b5, b6, b7, b8, Nat.reduceAdd, Nat.reduceEqDiff, Nat.reduceMul, reduceIte, reduceCtorEq, h0, h1, h5, decide_eq_true c1, ti27 ax, encA]
    with_reducible rfl
  · exact ⟨(by have q := Call0.call ((sslices_ContainsFunc_ok ax hx k l (fun y => sflow_bounded_1 k y most) rContainsFunc e2 65 [.cp [.int .i64 most]] (by simp only [ids2B, ids2C, idsA, idsB, Bool.and_self]) (fun y w hw => by first | exact sflow_bounded_1_ok ax hx k y most w hw | exact (sflow_bounded_1_ok ax hx k y most w hw))).call (stL [.gone])); exact q), trivial⟩
  simp only [onT, onTB]
  refine TW.gen (bs := [.gone]) (fun h => h 6 = .bool (!rContainsFunc)) ?_ ?_ ?_
  · rfl
  · exact rfl
  clear h0 h1 h5 h
  rintro h h6
  apply TW.ret
  cases H
  refine ⟨.inr rfl, ?_⟩
  first | (simp only [Try.results42, resT, h6]; done) | (simp only [Try.results42, resT, h6]; rfl)
def sflow_Check_L0 (k : Nat) (n : Net) (f_ : Failure) (flow : List Int) : Nat → Int → (List Int) → Option ((Int × Bool) ⊕ (List Int))
  | 0, _, _ => none
  | m + 1, i, l => (if i < (flow.length : Int) then (if (0 : Int) ≤ i ∧ i < (flow.length : Int) then (if (0 : Int) ≤ i ∧ i < (n.links.length : Int) then (((if (gx flow i) < 0 then some true else (if ((gx n.links i).cap) < (gx flow i) then some true else (if 0 < (gx flow i) then ((sgraph_Up k n f_ i).bind fun rUp => some (!rUp)) else some false))) : Option Bool).bind fun s_3 => (if s_3 = true then some (.inl (0, false)) else (if (0 : Int) ≤ ((gx n.links i).frm) ∧ ((gx n.links i).frm) < (((n.nodes.length : Int).toNat) : Int) then (if ((gx n.links i).frm).toNat < l.length then (if (0 : Int) ≤ ((gx n.links i).to) ∧ ((gx n.links i).to) < (((n.nodes.length : Int).toNat) : Int) then (if ((gx n.links i).to).toNat < (l.set ((gx n.links i).frm).toNat (IntKind.i64.wrap ((l.getD ((gx n.links i).frm).toNat default) + (gx flow i)))).length then sflow_Check_L0 k n f_ flow m (IntKind.i64.wrap (i + 1)) ((l.set ((gx n.links i).frm).toNat (IntKind.i64.wrap ((l.getD ((gx n.links i).frm).toNat default) + (gx flow i)))).set ((gx n.links i).to).toNat (IntKind.i64.wrap (((l.set ((gx n.links i).frm).toNat (IntKind.i64.wrap ((l.getD ((gx n.links i).frm).toNat default) + (gx flow i)))).getD ((gx n.links i).to).toNat default) - (gx flow i)))) else none) else none) else none) else none))) else none) else none) else some (.inr l))
def sflow_Check (k : Nat) (n : Net) (f_ : Failure) (from_ : Int) (to_ : Int) (flow : List Int) : Option (Int × Bool) := (((if from_ = to_ then some true else some (decide ((flow.length : Int) ≠ (n.links.length : Int)))) : Option Bool).bind fun s_ => (if s_ = true then some (0, false) else (if (0 : Int) ≤ (n.nodes.length : Int) ∧ (n.nodes.length : Int).toNat * 9 ≤ 1000000000 then ((sflow_Check_L0 k n f_ flow k 0 (List.replicate (n.nodes.length : Int).toNat 0) : Option ((Int × Bool) ⊕ (List Int))).bind fun o => Sum.elim (fun r => some r) (fun s_2 => (if (0 : Int) ≤ from_ ∧ from_ < (((n.nodes.length : Int).toNat) : Int) then (if from_.toNat < s_2.length then (if (0 : Int) ≤ to_ ∧ to_ < (((n.nodes.length : Int).toNat) : Int) then (if to_.toNat < (s_2.set from_.toNat 0).length then (if (s_2.getD from_.toNat default) < 0 then some (0, false) else (if ((s_2.set from_.toNat 0).set to_.toNat 0).length = (n.nodes.length : Int).toNat then ((sslices_ContainsFunc k ((s_2.set from_.toNat 0).set to_.toNat 0) (fun y => sflow_Check_1 k y)).bind fun rContainsFunc => (if rContainsFunc = true then some (0, false) else some (s_2.getD from_.toNat default, true))) else none)) else none) else none) else none) else none)) o) else none)))
set_option maxHeartbeats 8000000 in
theorem sflow_Check_ok (ax : Axs) (hx : Plain ax) (k : Nat) (n : Net) (f_ : Failure) (from_ : Int) (to_ : Int) (flow : List Int) (v : Int × Bool) (H : sflow_Check k n f_ from_ to_ flow = some v) : Pure Try.prog (EE ax) [] 11 [eNet n, eFail f_, .int .i64 from_, .int .i64 to_, ints flow] (tupT [.int .i64 v.1, .bool v.2]) := by
  rw [sflow_Check] at H
  refine Pure.enterN (fn := Try.f11) 97 (hx.no _ (by decide)) (fn11 ax) rfl Try.ntmps11 (by decide) (by simp) (by simp only [ids2B, ids2C, idsA, idsB, Bool.and_self]) (by first | rfl | simp only [ids2B, ids2C, idsA, idsB, Bool.and_self] | simp only [tupT, ids2B, ids2C, idsA, idsB, Bool.and_self]) ?_
  simp only [argT_cons, argT_nil, Nat.reduceAdd]
  refine TW.gen (bs := []) (fun h => h 0 = eNet n ∧ h 1 = eFail f_ ∧ h 2 = .int .i64 from_ ∧ h 3 = .int .i64 to_ ∧ h 4 = ints flow) rfl ?_ ?_
  · exact ⟨rfl, rfl, rfl, rfl, rfl⟩
  rintro h ⟨h0, h1, h2, h3, h4⟩
  repeat apply TW.seq
  apply TW.region (envs_ok ax) [] []
  · kernel_rfl
  · simp (disch := first | omega | decide | (simp only [lzA, Nat.reduceAdd, Nat.reduceLT]; done) | fail) only [b0, b1, b2, b3, b4, b5, b6, b7, b8, Nat.reduceAdd, Nat.reduceEqDiff, Nat.reduceMul, reduceIte, reduceCtorEq, h0, h1, encA]
    with_reducible rfl
  · exact trivial
  simp only [onT, onTB]
  refine TW.gen (bs := [.cells true 3 [lNodes n.nodes, lLinks n.links, lEdges n.edges], .cells true 2 [ints f_.links, .int .i64 f_.node]]) (fun h => h 2 = .int .i64 from_ ∧ h 3 = .int .i64 to_ ∧ h 4 = ints flow ∧ h 5 = .ptr 0 0 3 ∧ h 6 = .ptr 1 0 2) ?_ ?_ ?_
  · rfl
  · exact ⟨h2, h3, h4, rfl, rfl⟩
  clear h0 h1 h2 h3 h4 h
  rintro h ⟨h2, h3, h4, h5, h6⟩
  obtain ⟨s_, H1, H⟩ := bsome H
  repeat apply TW.seq
  refine TW.cutN [2, 3, 4, 5, 6, 27] 2 (by simp only [lzA] <;> omega) (fun h bs => h 2 = .int .i64 from_ ∧ h 3 = .int .i64 to_ ∧ h 4 = ints flow ∧ h 5 = .ptr 0 0 3 ∧ h 6 = .ptr 1 0 2 ∧ h 27 = .bool s_ ∧ bs = [.cells true 3 [lNodes n.nodes, lLinks n.links, lEdges n.edges], .cells true 2 [ints f_.links, .int .i64 f_.node]]) ?_ ?_
  · skip
    by_cases c1 : from_ = to_
    case neg =>
      rw [if_neg c1] at H1
      repeat apply TW.seq
      apply TW.region (envs_ok ax) [] []
      · kernel_rfl
      · simp (disch := first | omega | decide | (simp only [lzA, Nat.reduceAdd, Nat.reduceLT]; done) | fail) only [b0, b1, b2, b3, b4, b5, b6, b7, b8, Nat.reduceAdd, Nat.reduceEqDiff, Nat.reduceMul, reduceIte, reduceCtorEq, h2, h3, h4, h5, decide_eq_false c1, fa26_1, ti23 ax, ti27 ax, encA]
        with_reducible rfl
      · exact trivial
      simp only [onT, onTB]

      cases H1
      refine ⟨_, rfl, by simp only [lzA] <;> omega, ?_, ?_, ?_⟩
      · simp only [ids2A, ids2B, ids2C, reduceIte, Nat.reduceEqDiff, Nat.reduceAdd, Nat.reduceLT, Nat.reduceLeDiff, idsA, idsB, h2, h3, h4, h5, h6]
      · simp only [ids2A, ids2B, ids2C, reduceIte, Nat.reduceEqDiff, Nat.reduceAdd, Nat.reduceLT, Nat.reduceLeDiff, idsA, idsB, h2, h3, h4, h5, h6]
      · exact ⟨(keepT_at (by decide)).trans h2, (keepT_at (by decide)).trans h3, (keepT_at (by decide)).trans h4, (keepT_at (by decide)).trans h5, (keepT_at (by decide)).trans h6, (keepT_at (by decide)).trans rfl, (by first | rfl | trivial)⟩
    rw [if_pos c1] at H1
    repeat apply TW.seq
    apply TW.region (envs_ok ax) [] []
    · kernel_rfl
    · simp (disch := first | omega | decide | (simp only [lzA, Nat.reduceAdd, Nat.reduceLT]; done) | fail) only [b0, b1, b2, b3, b4, b5, b6, b7, b8, Nat.reduceAdd, Nat.reduceEqDiff, Nat.reduceMul, reduceIte, reduceCtorEq, h2, h3, h4, h5, decide_eq_true c1, encA]
      with_reducible rfl
    · exact trivial
    simp only [onT, onTB]

    cases H1
    refine ⟨_, rfl, by simp only [lzA] <;> omega, ?_, ?_, ?_⟩
    · simp only [ids2A, ids2B, ids2C, reduceIte, Nat.reduceEqDiff, Nat.reduceAdd, Nat.reduceLT, Nat.reduceLeDiff, idsA, idsB, h2, h3, h4, h5, h6]
    · simp only [ids2A, ids2B, ids2C, reduceIte, Nat.reduceEqDiff, Nat.reduceAdd, Nat.reduceLT, Nat.reduceLeDiff, idsA, idsB, h2, h3, h4, h5, h6]
    · exact ⟨(keepT_at (by decide)).trans h2, (keepT_at (by decide)).trans h3, (keepT_at (by decide)).trans h4, (keepT_at (by decide)).trans h5, (keepT_at (by decide)).trans h6, (keepT_at (by decide)).trans rfl, (by first | rfl | trivial)⟩
  clear h2 h3 h4 h5 h6 h
  rintro h bs ⟨h2, h3, h4, h5, h6, h27, rfl⟩
  simp only [onT, onTB]
  by_cases c2 : s_ = true
  case neg =>
    rw [if_neg c2] at H
    have c2f := (Bool.not_eq_true _).mp c2
    repeat apply TW.seq
    refine TW.cond (b := false) ?_ ?_
    · simp only [eT_tmp, eT_const, kT_bool, h27, c2f, Bool.not_true, Bool.not_false]
    simp only [cond_true, cond_false]
    repeat apply TW.seq
    apply TW.skip
    simp only [onT, onTB]
    by_cases g3 : (0 : Int) ≤ (n.nodes.length : Int) ∧ (n.nodes.length : Int).toNat * 9 ≤ 1000000000
    case neg => rw [if_neg g3] at H; cases H
    rw [if_pos g3] at H
    repeat apply TW.seq
    apply TW.region (envs_ok ax) [] []
    · kernel_rfl
    · simp (disch := first | omega | decide | (simp only [lzA, Nat.reduceAdd, Nat.reduceLT]; done) | fail) only [b0, b1, b2, b3, b4, b5, b6, b7, b8, Nat.reduceAdd, Nat.reduceEqDiff, Nat.reduceMul, reduceIte, reduceCtorEq, h5, c2f, el27, fa26_0, ti22 ax, encA]
      with_reducible rfl
    · exact trivial
    simp only [onT, onTB]
    refine TW.gen (bs := [.cells true 3 [lNodes n.nodes, lLinks n.links, lEdges n.edges], .cells true 2 [ints f_.links, .int .i64 f_.node], .cells true ((n.nodes.length : Int).toNat) ((List.replicate (n.nodes.length : Int).toNat 0).map (T.int .i64))]) (fun h => h 2 = .int .i64 from_ ∧ h 3 = .int .i64 to_ ∧ h 4 = ints flow ∧ h 5 = .ptr 0 0 3 ∧ h 6 = .ptr 1 0 2 ∧ h 12 = .arr 2 1 0 ((n.nodes.length : Int).toNat) ((n.nodes.length : Int).toNat) ((n.nodes.length : Int).toNat)) ?_ ?_ ?_
    · rfl
    · exact ⟨h2, h3, h4, h5, h6, (by first | rfl | (simp only [gsA, vecC_append, Nat.reduceEqDiff, reduceIte, h5, c2f]; done) | (simp only [gsA, vecC_append, Nat.reduceEqDiff, reduceIte, h5, c2f]; rfl))⟩
    clear h2 h3 h4 h5 h6 h27 h
    rintro h ⟨h2, h3, h4, h5, h6, h12⟩
    repeat apply TW.seq
    apply TW.region (envs_ok ax) [] []
    · kernel_rfl
    · simp (disch := first | omega | decide | (simp only [lzA, Nat.reduceAdd, Nat.reduceLT]; done) | fail) only [b0, b1, b2, b3, b4, b5, b6, b7, b8, Nat.reduceAdd, Nat.reduceEqDiff, Nat.reduceMul, reduceIte, reduceCtorEq, h4, c2f, ti27 ax, encA]
      with_reducible rfl
    · exact trivial
    simp only [onT, onTB]
    refine TW.gen (bs := [.cells true 3 [lNodes n.nodes, lLinks n.links, lEdges n.edges], .cells true 2 [ints f_.links, .int .i64 f_.node], .cells true ((n.nodes.length : Int).toNat) ((List.replicate (n.nodes.length : Int).toNat 0).map (T.int .i64))]) (fun h => h 2 = .int .i64 from_ ∧ h 3 = .int .i64 to_ ∧ h 5 = .ptr 0 0 3 ∧ h 6 = .ptr 1 0 2 ∧ h 12 = .arr 2 1 0 ((n.nodes.length : Int).toNat) ((n.nodes.length : Int).toNat) ((n.nodes.length : Int).toNat) ∧ h 32 = ints flow ∧ h 33 = .int .i64 (flow.length : Int) ∧ h 34 = .int .i64 0) ?_ ?_ ?_
    · rfl
    · exact ⟨h2, h3, h5, h6, h12, rfl, rfl, rfl⟩
    clear h2 h3 h4 h5 h6 h12 h
    rintro h ⟨h2, h3, h5, h6, h12, h32, h33, h34⟩
    obtain ⟨o, H1, H⟩ := bsome H
    repeat apply TW.seq
    refine TW.cutN [2, 3, 12] 3 (by simp only [lzA] <;> omega) (fun h bs => ∃ s_2 : List Int, o = .inr s_2 ∧ h 2 = .int .i64 from_ ∧ h 3 = .int .i64 to_ ∧ h 12 = .arr 2 1 0 ((n.nodes.length : Int).toNat) ((n.nodes.length : Int).toNat) ((n.nodes.length : Int).toNat) ∧ bs = [.cells true 3 [lNodes n.nodes, lLinks n.links, lEdges n.edges], .cells true 2 [ints f_.links, .int .i64 f_.node], .cells true ((n.nodes.length : Int).toNat) (s_2.map (T.int .i64))]) ?_ ?_
    · skip
      repeat apply TW.seq
      apply TW.block
      repeat apply TW.seq
      refine TW.loopT [2, 3, 5, 6, 12, 32, 33, 34] (fun m h bs => ∃ (i : Int) (l : List Int), sflow_Check_L0 k n f_ flow m i l = some o ∧ h 2 = .int .i64 from_ ∧ h 3 = .int .i64 to_ ∧ h 5 = .ptr 0 0 3 ∧ h 6 = .ptr 1 0 2 ∧ h 12 = .arr 2 1 0 ((n.nodes.length : Int).toNat) ((n.nodes.length : Int).toNat) ((n.nodes.length : Int).toNat) ∧ h 32 = ints flow ∧ h 33 = .int .i64 (flow.length : Int) ∧ h 34 = .int .i64 i ∧ bs = [.cells true 3 [lNodes n.nodes, lLinks n.links, lEdges n.edges], .cells true 2 [ints f_.links, .int .i64 f_.node], .cells true ((n.nodes.length : Int).toNat) (l.map (T.int .i64))]) ?_ k _ _ ?_
      rotate_left
      · exact ⟨0, (List.replicate (n.nodes.length : Int).toNat 0), H1, (by first | exact h2 | (rw [h2]; rfl)), (by first | exact h3 | (rw [h3]; rfl)), (by first | exact h5 | (rw [h5]; rfl)), (by first | exact h6 | (rw [h6]; rfl)), (by first | exact h12 | (rw [h12]; rfl)), (by first | exact h32 | (rw [h32]; rfl)), (by first | exact h33 | (rw [h33]; rfl)), (by first | exact h34 | (rw [h34]; rfl)), rfl⟩
      clear h2 h3 h5 h6 h12 h32 h33 h34 h
      clear H1
      rintro m h bs ⟨i, l, H1, h2, h3, h5, h6, h12, h32, h33, h34, rfl⟩
      rcases m with _ | m
      · rw [sflow_Check_L0] at H1; cases H1
      rw [sflow_Check_L0] at H1
      repeat apply TW.seq
      apply TW.region (envs_ok ax) [] []
      · kernel_rfl
      · simp (disch := first | omega | decide | (simp only [lzA, Nat.reduceAdd, Nat.reduceLT]; done) | fail) only [b0, b1, b2, b3, b4, b5, b6, b7, b8, Nat.reduceAdd, Nat.reduceEqDiff, Nat.reduceMul, reduceIte, reduceCtorEq, h34, h33, c2f, encA]
        with_reducible rfl
      · exact trivial
      simp only [onT, onTB]
      refine TW.gen (bs := [.cells true 3 [lNodes n.nodes, lLinks n.links, lEdges n.edges], .cells true 2 [ints f_.links, .int .i64 f_.node], .cells true ((n.nodes.length : Int).toNat) (l.map (T.int .i64))]) (fun h => h 2 = .int .i64 from_ ∧ h 3 = .int .i64 to_ ∧ h 5 = .ptr 0 0 3 ∧ h 6 = .ptr 1 0 2 ∧ h 12 = .arr 2 1 0 ((n.nodes.length : Int).toNat) ((n.nodes.length : Int).toNat) ((n.nodes.length : Int).toNat) ∧ h 32 = ints flow ∧ h 33 = .int .i64 (flow.length : Int) ∧ h 34 = .int .i64 i ∧ h 35 = .bool (decide (i < (flow.length : Int)))) ?_ ?_ ?_
      · rfl
      · exact ⟨h2, h3, h5, h6, h12, h32, h33, h34, rfl⟩
      clear h2 h3 h5 h6 h12 h32 h33 h34 h
      rintro h ⟨h2, h3, h5, h6, h12, h32, h33, h34, h35⟩
      by_cases c4 : i < (flow.length : Int)
      case neg =>
        rw [if_neg c4] at H1
        repeat apply TW.seq
        refine TW.cond (b := false) ?_ ?_
        · simp only [eT_tmp, eT_const, kT_bool, h35, c2f, decide_eq_false c4, Bool.not_true, Bool.not_false]
        simp only [cond_true, cond_false]
        apply TW.exit
        simp (disch := decide) only [onT, onTB, Nat.beq_refl, beq_no, cond_true, cond_false]
        cases H1
        refine ⟨_, rfl, by simp only [lzA] <;> omega, ?_, ?_, ?_⟩
        · simp only [ids2A, ids2B, ids2C, reduceIte, Nat.reduceEqDiff, Nat.reduceAdd, Nat.reduceLT, Nat.reduceLeDiff, idsA, idsB, h2, h3, h5, h6, h12, h32, h33, h34, h35]
        · simp only [ids2A, ids2B, ids2C, reduceIte, Nat.reduceEqDiff, Nat.reduceAdd, Nat.reduceLT, Nat.reduceLeDiff, idsA, idsB, h2, h3, h5, h6, h12, h32, h33, h34, h35]
        · exact ⟨_, rfl, (keepT_at (by decide)).trans (by first | exact h2 | (rw [h2]; rfl)), (keepT_at (by decide)).trans (by first | exact h3 | (rw [h3]; rfl)), (keepT_at (by decide)).trans (by first | exact h12 | (rw [h12]; rfl)), (by first | rfl | trivial)⟩
      rw [if_pos c4] at H1
      repeat apply TW.seq
      refine TW.cond (b := true) ?_ ?_
      · simp only [eT_tmp, eT_const, kT_bool, h35, c2f, decide_eq_true c4, Bool.not_true, Bool.not_false]
      simp only [cond_true, cond_false]
      repeat apply TW.seq
      apply TW.skip
      simp only [onT, onTB]
      repeat apply TW.seq
      apply TW.block
      by_cases g5 : (0 : Int) ≤ i ∧ i < (flow.length : Int)
      case neg => rw [if_neg g5] at H1; cases H1
      rw [if_pos g5] at H1
      repeat apply TW.seq
      apply TW.region (envs_ok ax) [] []
      · kernel_rfl
      · simp (disch := first | omega | decide | (simp only [lzA, Nat.reduceAdd, Nat.reduceLT]; done) | fail) only [b0, b1, b2, b3, b4, b5, b6, b7, b8, Nat.reduceAdd, Nat.reduceEqDiff, Nat.reduceMul, reduceIte, reduceCtorEq, h34, h32, c2f, decide_eq_true c4, gx_some g5, ti27 ax, ti3 ax, encA]
        with_reducible rfl
      · exact trivial
      simp only [onT, onTB]
      refine TW.gen (bs := [.cells true 3 [lNodes n.nodes, lLinks n.links, lEdges n.edges], .cells true 2 [ints f_.links, .int .i64 f_.node], .cells true ((n.nodes.length : Int).toNat) (l.map (T.int .i64))]) (fun h => h 2 = .int .i64 from_ ∧ h 3 = .int .i64 to_ ∧ h 5 = .ptr 0 0 3 ∧ h 6 = .ptr 1 0 2 ∧ h 12 = .arr 2 1 0 ((n.nodes.length : Int).toNat) ((n.nodes.length : Int).toNat) ((n.nodes.length : Int).toNat) ∧ h 13 = .int .i64 i ∧ h 14 = .int .i64 (gx flow i) ∧ h 32 = ints flow ∧ h 33 = .int .i64 (flow.length : Int) ∧ h 34 = .int .i64 i) ?_ ?_ ?_
      · rfl
      · exact ⟨h2, h3, h5, h6, h12, rfl, rfl, h32, h33, h34⟩
      clear h2 h3 h5 h6 h12 h32 h33 h34 h35 h
      rintro h ⟨h2, h3, h5, h6, h12, h13, h14, h32, h33, h34⟩
      by_cases g6 : (0 : Int) ≤ i ∧ i < (n.links.length : Int)
      case neg => rw [if_neg g6] at H1; cases H1
      rw [if_pos g6] at H1
      repeat apply TW.seq
      apply TW.region (envs_ok ax) [] []
      · kernel_rfl
      · simp (disch := first | omega | decide | (simp only [lzA, Nat.reduceAdd, Nat.reduceLT]; done) | fail) only [b0, b1, b2, b3, b4, b5, b6, b7, b8, Nat.reduceAdd, Nat.reduceEqDiff, Nat.reduceMul, reduceIte, reduceCtorEq, h5, h13, c2f, decide_eq_true c4, gx_some g6, fa26_1, ti23 ax, ti51 ax, encA]
        with_reducible rfl
      · exact trivial
      simp only [onT, onTB]
      refine TW.gen (bs := [.cells true 3 [lNodes n.nodes, lLinks n.links, lEdges n.edges], .cells true 2 [ints f_.links, .int .i64 f_.node], .cells true ((n.nodes.length : Int).toNat) (l.map (T.int .i64)), .cells true 3 [.int .i64 ((gx n.links i).frm), .int .i64 ((gx n.links i).to), .int .i64 ((gx n.links i).cap)]]) (fun h => h 2 = .int .i64 from_ ∧ h 3 = .int .i64 to_ ∧ h 5 = .ptr 0 0 3 ∧ h 6 = .ptr 1 0 2 ∧ h 12 = .arr 2 1 0 ((n.nodes.length : Int).toNat) ((n.nodes.length : Int).toNat) ((n.nodes.length : Int).toNat) ∧ h 13 = .int .i64 i ∧ h 14 = .int .i64 (gx flow i) ∧ h 15 = .ptr 3 0 3 ∧ h 32 = ints flow ∧ h 33 = .int .i64 (flow.length : Int) ∧ h 34 = .int .i64 i) ?_ ?_ ?_
      · rfl
      · exact ⟨h2, h3, h5, h6, h12, h13, h14, rfl, h32, h33, h34⟩
      clear h2 h3 h5 h6 h12 h13 h14 h32 h33 h34 h
      rintro h ⟨h2, h3, h5, h6, h12, h13, h14, h15, h32, h33, h34⟩
      obtain ⟨s_3, H2, H1⟩ := bsome H1
      repeat apply TW.seq
      refine TW.cutN [2, 3, 5, 6, 12, 14, 15, 32, 33, 34, 62] 4 (by simp only [lzA] <;> omega) (fun h bs => h 2 = .int .i64 from_ ∧ h 3 = .int .i64 to_ ∧ h 5 = .ptr 0 0 3 ∧ h 6 = .ptr 1 0 2 ∧ h 12 = .arr 2 1 0 ((n.nodes.length : Int).toNat) ((n.nodes.length : Int).toNat) ((n.nodes.length : Int).toNat) ∧ h 14 = .int .i64 (gx flow i) ∧ h 15 = .ptr 3 0 3 ∧ h 32 = ints flow ∧ h 33 = .int .i64 (flow.length : Int) ∧ h 34 = .int .i64 i ∧ h 62 = .bool s_3 ∧ bs = [.cells true 3 [lNodes n.nodes, lLinks n.links, lEdges n.edges], .cells true 2 [ints f_.links, .int .i64 f_.node], .cells true ((n.nodes.length : Int).toNat) (l.map (T.int .i64)), .cells true 3 [.int .i64 ((gx n.links i).frm), .int .i64 ((gx n.links i).to), .int .i64 ((gx n.links i).cap)]]) ?_ ?_
      · skip
        by_cases c7 : (gx flow i) < 0
        case neg =>
          rw [if_neg c7] at H2
          by_cases c8 : ((gx n.links i).cap) < (gx flow i)
          case neg =>
            rw [if_neg c8] at H2
            by_cases c9 : 0 < (gx flow i)
            case neg =>
              rw [if_neg c9] at H2
              repeat apply TW.seq
              apply TW.region (envs_ok ax) [] []
              · kernel_rfl
              · simp (maxSteps := 900000) (disch := first | omega | decide | (simp only [lzA, Nat.reduceAdd, Nat.reduceLT]; done) | fail) only [b0, b1, b2, b3, b4, b5, b6, b7, b8, Nat.reduceAdd, Nat.reduceEqDiff, Nat.reduceMul, reduceIte, reduceCtorEq, h14, h15, h5, h6, h13, c2f, decide_eq_true c4, decide_eq_false c7, decide_eq_false c8, decide_eq_false c9, fa51_2, ti3 ax, encA]
                with_reducible rfl
              · exact trivial
              simp only [onT, onTB]

              cases H2
              refine ⟨_, rfl, by simp only [lzA] <;> omega, ?_, ?_, ?_⟩
              · simp only [ids2A, ids2B, ids2C, reduceIte, Nat.reduceEqDiff, Nat.reduceAdd, Nat.reduceLT, Nat.reduceLeDiff, idsA, idsB, h2, h3, h5, h6, h12, h13, h14, h15, h32, h33, h34]
              · simp only [ids2A, ids2B, ids2C, reduceIte, Nat.reduceEqDiff, Nat.reduceAdd, Nat.reduceLT, Nat.reduceLeDiff, idsA, idsB, h2, h3, h5, h6, h12, h13, h14, h15, h32, h33, h34]
              · exact ⟨(keepT_at (by decide)).trans h2, (keepT_at (by decide)).trans h3, (keepT_at (by decide)).trans h5, (keepT_at (by decide)).trans h6, (keepT_at (by decide)).trans h12, (keepT_at (by decide)).trans h14, (keepT_at (by decide)).trans h15, (keepT_at (by decide)).trans h32, (keepT_at (by decide)).trans h33, (keepT_at (by decide)).trans h34, (keepT_at (by decide)).trans rfl, (by first | rfl | trivial)⟩
            rw [if_pos c9] at H2
            obtain ⟨rUp, e10, H2⟩ := bsome H2
            repeat apply TW.seq
            apply TW.region (envs_ok ax) [] [(.bool rUp, stL [.cells true 3 [lNodes n.nodes, lLinks n.links, lEdges n.edges], .cells true 2 [ints f_.links, .int .i64 f_.node], .cells true ((n.nodes.length : Int).toNat) (l.map (T.int .i64)), .cells true 3 [.int .i64 ((gx n.links i).frm), .int .i64 ((gx n.links i).to), .int .i64 ((gx n.links i).cap)]])]
            · kernel_rfl
            · simp (maxSteps := 900000) (disch := first | omega | decide | (simp only [lzA, Nat.reduceAdd, Nat.reduceLT]; done) | fail) only [b0, b1, b2, b3, b4, b5, b6, b7, b8, Nat.reduceAdd, Nat.reduceEqDiff, Nat.reduceMul, reduceIte, reduceCtorEq, h14, h15, h5, h6, h13, c2f, decide_eq_true c4, decide_eq_false c7, decide_eq_false c8, decide_eq_true c9, fa51_2, ti26 ax, ti29 ax, ti3 ax, encA]
              with_reducible rfl
            · exact ⟨(by have q := Call0.call ((sgraph_Up_ok ax hx k n f_ i rUp e10 ).call (stL [.cells true 3 [lNodes n.nodes, lLinks n.links, lEdges n.edges], .cells true 2 [ints f_.links, .int .i64 f_.node], .cells true ((n.nodes.length : Int).toNat) (l.map (T.int .i64)), .cells true 3 [.int .i64 ((gx n.links i).frm), .int .i64 ((gx n.links i).to), .int .i64 ((gx n.links i).cap)]])); (try simp only [c2f] at q); exact q), trivial⟩
            simp only [onT, onTB]

            cases H2
            refine ⟨_, rfl, by simp only [lzA] <;> omega, ?_, ?_, ?_⟩
            · simp only [ids2A, ids2B, ids2C, reduceIte, Nat.reduceEqDiff, Nat.reduceAdd, Nat.reduceLT, Nat.reduceLeDiff, idsA, idsB, h2, h3, h5, h6, h12, h13, h14, h15, h32, h33, h34]
            · simp only [ids2A, ids2B, ids2C, reduceIte, Nat.reduceEqDiff, Nat.reduceAdd, Nat.reduceLT, Nat.reduceLeDiff, idsA, idsB, h2, h3, h5, h6, h12, h13, h14, h15, h32, h33, h34]
            · exact ⟨(keepT_at (by decide)).trans h2, (keepT_at (by decide)).trans h3, (keepT_at (by decide)).trans h5, (keepT_at (by decide)).trans h6, (keepT_at (by decide)).trans h12, (keepT_at (by decide)).trans h14, (keepT_at (by decide)).trans h15, (keepT_at (by decide)).trans h32, (keepT_at (by decide)).trans h33, (keepT_at (by decide)).trans h34, (keepT_at (by decide)).trans rfl, (by first | rfl | trivial)⟩
          rw [if_pos c8] at H2
          repeat apply TW.seq
          apply TW.region (envs_ok ax) [] []
          · kernel_rfl
          · simp (maxSteps := 900000) (disch := first | omega | decide | (simp only [lzA, Nat.reduceAdd, Nat.reduceLT]; done) | fail) only [b0, b1, b2, b3, b4, b5, b6, b7, b8, Nat.reduceAdd, Nat.reduceEqDiff, Nat.reduceMul, reduceIte, reduceCtorEq, h14, h15, h5, h6, h13, c2f, decide_eq_true c4, decide_eq_false c7, decide_eq_true c8, fa51_2, ti3 ax, encA]
            with_reducible rfl
          · exact trivial
          simp only [onT, onTB]

          cases H2
          refine ⟨_, rfl, by simp only [lzA] <;> omega, ?_, ?_, ?_⟩
          · simp only [ids2A, ids2B, ids2C, reduceIte, Nat.reduceEqDiff, Nat.reduceAdd, Nat.reduceLT, Nat.reduceLeDiff, idsA, idsB, h2, h3, h5, h6, h12, h13, h14, h15, h32, h33, h34]
          · simp only [ids2A, ids2B, ids2C, reduceIte, Nat.reduceEqDiff, Nat.reduceAdd, Nat.reduceLT, Nat.reduceLeDiff, idsA, idsB, h2, h3, h5, h6, h12, h13, h14, h15, h32, h33, h34]
          · exact ⟨(keepT_at (by decide)).trans h2, (keepT_at (by decide)).trans h3, (keepT_at (by decide)).trans h5, (keepT_at (by decide)).trans h6, (keepT_at (by decide)).trans h12, (keepT_at (by decide)).trans h14, (keepT_at (by decide)).trans h15, (keepT_at (by decide)).trans h32, (keepT_at (by decide)).trans h33, (keepT_at (by decide)).trans h34, (keepT_at (by decide)).trans rfl, (by first | rfl | trivial)⟩
        rw [if_pos c7] at H2
        repeat apply TW.seq
        apply TW.region (envs_ok ax) [] []
        · kernel_rfl
        · simp (maxSteps := 900000) (disch := first | omega | decide | (simp only [lzA, Nat.reduceAdd, Nat.reduceLT]; done) | fail) only [b0, b1, b2, b3, b4, b5, b6, b7, b8, Nat.reduceAdd, Nat.reduceEqDiff, Nat.reduceMul, reduceIte, reduceCtorEq, h14, h15, h5, h6, h13, c2f, decide_eq_true c4, decide_eq_true c7, encA]
          with_reducible rfl
        · exact trivial
        simp only [onT, onTB]

        cases H2
        refine ⟨_, rfl, by simp only [lzA] <;> omega, ?_, ?_, ?_⟩
        · simp only [ids2A, ids2B, ids2C, reduceIte, Nat.reduceEqDiff, Nat.reduceAdd, Nat.reduceLT, Nat.reduceLeDiff, idsA, idsB, h2, h3, h5, h6, h12, h13, h14, h15, h32, h33, h34]
        · simp only [ids2A, ids2B, ids2C, reduceIte, Nat.reduceEqDiff, Nat.reduceAdd, Nat.reduceLT, Nat.reduceLeDiff, idsA, idsB, h2, h3, h5, h6, h12, h13, h14, h15, h32, h33, h34]
        · exact ⟨(keepT_at (by decide)).trans h2, (keepT_at (by decide)).trans h3, (keepT_at (by decide)).trans h5, (keepT_at (by decide)).trans h6, (keepT_at (by decide)).trans h12, (keepT_at (by decide)).trans h14, (keepT_at (by decide)).trans h15, (keepT_at (by decide)).trans h32, (keepT_at (by decide)).trans h33, (keepT_at (by decide)).trans h34, (keepT_at (by decide)).trans rfl, (by first | rfl | trivial)⟩
      clear h2 h3 h5 h6 h12 h13 h14 h15 h32 h33 h34 h
      rintro h bs ⟨h2, h3, h5, h6, h12, h14, h15, h32, h33, h34, h62, rfl⟩
      simp only [onT, onTB]
      by_cases c11 : s_3 = true
      case neg =>
        rw [if_neg c11] at H1
        have c11f := (Bool.not_eq_true _).mp c11
        repeat apply TW.seq
        refine TW.cond (b := false) ?_ ?_
        · simp only [eT_tmp, eT_const, kT_bool, h62, c2f, decide_eq_true c4, c11f, Bool.not_true, Bool.not_false]
        simp only [cond_true, cond_false]
        repeat apply TW.seq
        apply TW.skip
        simp only [onT, onTB]
        by_cases g12 : (0 : Int) ≤ ((gx n.links i).frm) ∧ ((gx n.links i).frm) < (((n.nodes.length : Int).toNat) : Int)
        case neg => rw [if_neg g12] at H1; cases H1
        rw [if_pos g12] at H1
        by_cases g13 : ((gx n.links i).frm).toNat < l.length
        case neg => rw [if_neg g13] at H1; cases H1
        rw [if_pos g13] at H1
        repeat apply TW.seq
        apply TW.region (envs_ok ax) [] []
        · kernel_rfl
        · simp (disch := first | omega | decide | (simp only [lzA, Nat.reduceAdd, Nat.reduceLT]; done) | fail) only [b0, b1, b2, b3, b4, b5, b6, b7, b8, Nat.reduceAdd, Nat.reduceEqDiff, Nat.reduceMul, reduceIte, reduceCtorEq, h12, h15, h14, c2f, decide_eq_true c4, c11f, get_some g13, spl_map g13, fa51_0, ti27 ax, ti3 ax, encA]
          with_reducible rfl
        · exact trivial
        simp only [onT, onTB]
        refine TW.gen (bs := [.cells true 3 [lNodes n.nodes, lLinks n.links, lEdges n.edges], .cells true 2 [ints f_.links, .int .i64 f_.node], .cells true ((n.nodes.length : Int).toNat) ((l.set ((gx n.links i).frm).toNat (IntKind.i64.wrap ((l.getD ((gx n.links i).frm).toNat default) + (gx flow i)))).map (T.int .i64)), .cells true 3 [.int .i64 ((gx n.links i).frm), .int .i64 ((gx n.links i).to), .int .i64 ((gx n.links i).cap)]]) (fun h => h 2 = .int .i64 from_ ∧ h 3 = .int .i64 to_ ∧ h 5 = .ptr 0 0 3 ∧ h 6 = .ptr 1 0 2 ∧ h 12 = .arr 2 1 0 ((n.nodes.length : Int).toNat) ((n.nodes.length : Int).toNat) ((n.nodes.length : Int).toNat) ∧ h 14 = .int .i64 (gx flow i) ∧ h 15 = .ptr 3 0 3 ∧ h 32 = ints flow ∧ h 33 = .int .i64 (flow.length : Int) ∧ h 34 = .int .i64 i) ?_ ?_ ?_
        · rfl
        · exact ⟨h2, h3, h5, h6, h12, h14, h15, h32, h33, h34⟩
        clear h2 h3 h5 h6 h12 h14 h15 h32 h33 h34 h62 h
        rintro h ⟨h2, h3, h5, h6, h12, h14, h15, h32, h33, h34⟩
        by_cases g14 : (0 : Int) ≤ ((gx n.links i).to) ∧ ((gx n.links i).to) < (((n.nodes.length : Int).toNat) : Int)
        case neg => rw [if_neg g14] at H1; cases H1
        rw [if_pos g14] at H1
        by_cases g15 : ((gx n.links i).to).toNat < (l.set ((gx n.links i).frm).toNat (IntKind.i64.wrap ((l.getD ((gx n.links i).frm).toNat default) + (gx flow i)))).length
        case neg => rw [if_neg g15] at H1; cases H1
        rw [if_pos g15] at H1
        repeat apply TW.seq
        apply TW.region (envs_ok ax) [] []
        · kernel_rfl
        · simp (disch := first | omega | decide | (simp only [lzA, Nat.reduceAdd, Nat.reduceLT]; done) | fail) only [b0, b1, b2, b3, b4, b5, b6, b7, b8, Nat.reduceAdd, Nat.reduceEqDiff, Nat.reduceMul, reduceIte, reduceCtorEq, h12, h15, h14, c2f, decide_eq_true c4, c11f, get_some g15, spl_map g15, fa51_1, ti27 ax, ti3 ax, encA]
          with_reducible rfl
        · exact trivial
        simp only [onT, onTB]
        refine TW.gen (bs := [.cells true 3 [lNodes n.nodes, lLinks n.links, lEdges n.edges], .cells true 2 [ints f_.links, .int .i64 f_.node], .cells true ((n.nodes.length : Int).toNat) (((l.set ((gx n.links i).frm).toNat (IntKind.i64.wrap ((l.getD ((gx n.links i).frm).toNat default) + (gx flow i)))).set ((gx n.links i).to).toNat (IntKind.i64.wrap (((l.set ((gx n.links i).frm).toNat (IntKind.i64.wrap ((l.getD ((gx n.links i).frm).toNat default) + (gx flow i)))).getD ((gx n.links i).to).toNat default) - (gx flow i)))).map (T.int .i64)), .cells true 3 [.int .i64 ((gx n.links i).frm), .int .i64 ((gx n.links i).to), .int .i64 ((gx n.links i).cap)]]) (fun h => h 2 = .int .i64 from_ ∧ h 3 = .int .i64 to_ ∧ h 5 = .ptr 0 0 3 ∧ h 6 = .ptr 1 0 2 ∧ h 12 = .arr 2 1 0 ((n.nodes.length : Int).toNat) ((n.nodes.length : Int).toNat) ((n.nodes.length : Int).toNat) ∧ h 32 = ints flow ∧ h 33 = .int .i64 (flow.length : Int) ∧ h 34 = .int .i64 i) ?_ ?_ ?_
        · rfl
        · exact ⟨h2, h3, h5, h6, h12, h32, h33, h34⟩
        clear h2 h3 h5 h6 h12 h14 h15 h32 h33 h34 h
        rintro h ⟨h2, h3, h5, h6, h12, h32, h33, h34⟩
        repeat apply TW.seq
        apply TW.region (envs_ok ax) [] []
        · kernel_rfl
        · simp (disch := first | omega | decide | (simp only [lzA, Nat.reduceAdd, Nat.reduceLT]; done) | fail) only [b0, b1, b2, b3, b4, b5, b6, b7, b8, Nat.reduceAdd, Nat.reduceEqDiff, Nat.reduceMul, reduceIte, reduceCtorEq, h34, c2f, decide_eq_true c4, c11f, encA]
          with_reducible rfl
        · exact trivial
        simp only [onT, onTB]

        refine ⟨m, by omega, _, rfl, by simp only [lzA] <;> omega, ?_, ?_, ?_⟩
        · simp only [ids2A, ids2B, ids2C, reduceIte, Nat.reduceEqDiff, Nat.reduceAdd, Nat.reduceLT, Nat.reduceLeDiff, idsA, idsB, h2, h3, h5, h6, h12, h32, h33, h34]
        · simp only [ids2A, ids2B, ids2C, reduceIte, Nat.reduceEqDiff, Nat.reduceAdd, Nat.reduceLT, Nat.reduceLeDiff, idsA, idsB, h2, h3, h5, h6, h12, h32, h33, h34]
        · exact ⟨(IntKind.i64.wrap (i + 1)), ((l.set ((gx n.links i).frm).toNat (IntKind.i64.wrap ((l.getD ((gx n.links i).frm).toNat default) + (gx flow i)))).set ((gx n.links i).to).toNat (IntKind.i64.wrap (((l.set ((gx n.links i).frm).toNat (IntKind.i64.wrap ((l.getD ((gx n.links i).frm).toNat default) + (gx flow i)))).getD ((gx n.links i).to).toNat default) - (gx flow i)))), H1, (keepT_at (by decide)).trans h2, (keepT_at (by decide)).trans h3, (keepT_at (by decide)).trans h5, (keepT_at (by decide)).trans h6, (keepT_at (by decide)).trans h12, (keepT_at (by decide)).trans h32, (keepT_at (by decide)).trans h33, (keepT_at (by decide)).trans rfl, (by first | rfl | trivial)⟩
      rw [if_pos c11] at H1
      repeat apply TW.seq
      refine TW.cond (b := true) ?_ ?_
      · simp only [eT_tmp, eT_const, kT_bool, h62, c2f, decide_eq_true c4, c11, Bool.not_true, Bool.not_false]
      simp only [cond_true, cond_false]
      repeat apply TW.seq
      apply TW.region (envs_ok ax) [] []
      · kernel_rfl
      · simp (disch := first | omega | decide | (simp only [lzA, Nat.reduceAdd, Nat.reduceLT]; done) | fail) only [b0, b1, b2, b3, b4, b5, b6, b7, b8, Nat.reduceAdd, Nat.reduceEqDiff, Nat.reduceMul, reduceIte, reduceCtorEq, c2f, decide_eq_true c4, c11, encA]
        with_reducible rfl
      · exact trivial
      simp only [onT, onTB]
      refine TW.gen (bs := [.cells true 3 [lNodes n.nodes, lLinks n.links, lEdges n.edges], .cells true 2 [ints f_.links, .int .i64 f_.node], .cells true ((n.nodes.length : Int).toNat) (l.map (T.int .i64)), .cells true 3 [.int .i64 ((gx n.links i).frm), .int .i64 ((gx n.links i).to), .int .i64 ((gx n.links i).cap)]]) (fun h => h 10 = .int .i64 0 ∧ h 11 = .bool false) ?_ ?_ ?_
      · rfl
      · exact ⟨rfl, rfl⟩
      clear h2 h3 h5 h6 h12 h14 h15 h32 h33 h34 h62 h
      rintro h ⟨h10, h11⟩
      apply TW.ret
      cases H1
      rw [Sum.elim_inl] at H
      cases H
      refine ⟨.inr rfl, ?_⟩
      first | (simp only [Try.results11, resT, h10, h11]; done) | (simp only [Try.results11, resT, h10, h11]; rfl)
    clear h2 h3 h5 h6 h12 h32 h33 h34 h
    rintro h bs ⟨s_2, rfl, h2, h3, h12, rfl⟩
    rw [Sum.elim_inr] at H
    simp only [onT, onTB]
    by_cases g16 : (0 : Int) ≤ from_ ∧ from_ < (((n.nodes.length : Int).toNat) : Int)
    case neg => rw [if_neg g16] at H; cases H
    rw [if_pos g16] at H
    by_cases g17 : from_.toNat < s_2.length
    case neg => rw [if_neg g17] at H; cases H
    rw [if_pos g17] at H
    repeat apply TW.seq
    apply TW.region (envs_ok ax) [] []
    · kernel_rfl
    · simp (disch := first | omega | decide | (simp only [lzA, Nat.reduceAdd, Nat.reduceLT]; done) | fail) only [b0, b1, b2, b3, b4, b5, b6, b7, b8, Nat.reduceAdd, Nat.reduceEqDiff, Nat.reduceMul, reduceIte, reduceCtorEq, h12, h2, c2f, get_some g17, ti27 ax, ti3 ax, encA]
      with_reducible rfl
    · exact trivial
    simp only [onT, onTB]
    refine TW.gen (bs := [.cells true 3 [lNodes n.nodes, lLinks n.links, lEdges n.edges], .cells true 2 [ints f_.links, .int .i64 f_.node], .cells true ((n.nodes.length : Int).toNat) (s_2.map (T.int .i64))]) (fun h => h 2 = .int .i64 from_ ∧ h 3 = .int .i64 to_ ∧ h 12 = .arr 2 1 0 ((n.nodes.length : Int).toNat) ((n.nodes.length : Int).toNat) ((n.nodes.length : Int).toNat) ∧ h 16 = .int .i64 (s_2.getD from_.toNat default)) ?_ ?_ ?_
    · rfl
    · exact ⟨h2, h3, h12, rfl⟩
    clear h2 h3 h12 h
    rintro h ⟨h2, h3, h12, h16⟩
    by_cases g18 : (0 : Int) ≤ to_ ∧ to_ < (((n.nodes.length : Int).toNat) : Int)
    case neg => rw [if_neg g18] at H; cases H
    rw [if_pos g18] at H
    by_cases g19 : to_.toNat < (s_2.set from_.toNat 0).length
    case neg => rw [if_neg g19] at H; cases H
    rw [if_pos g19] at H
    repeat apply TW.seq
    apply TW.region (envs_ok ax) [] []
    · kernel_rfl
    · simp (disch := first | omega | decide | (simp only [lzA, Nat.reduceAdd, Nat.reduceLT]; done) | fail) only [b0, b1, b2, b3, b4, b5, b6, b7, b8, Nat.reduceAdd, Nat.reduceEqDiff, Nat.reduceMul, reduceIte, reduceCtorEq, h12, h2, h3, c2f, spl_map g17, spl_map g19, ti27 ax, ti3 ax, encA]
      with_reducible rfl
    · exact trivial
    simp only [onT, onTB]
    refine TW.gen (bs := [.cells true 3 [lNodes n.nodes, lLinks n.links, lEdges n.edges], .cells true 2 [ints f_.links, .int .i64 f_.node], .cells true ((n.nodes.length : Int).toNat) (((s_2.set from_.toNat 0).set to_.toNat 0).map (T.int .i64))]) (fun h => h 12 = .arr 2 1 0 ((n.nodes.length : Int).toNat) ((n.nodes.length : Int).toNat) ((n.nodes.length : Int).toNat) ∧ h 16 = .int .i64 (s_2.getD from_.toNat default)) ?_ ?_ ?_
    · rfl
    · exact ⟨h12, h16⟩
    clear h2 h3 h12 h16 h
    rintro h ⟨h12, h16⟩
    by_cases c20 : (s_2.getD from_.toNat default) < 0
    case neg =>
      rw [if_neg c20] at H
      by_cases g21 : ((s_2.set from_.toNat 0).set to_.toNat 0).length = (n.nodes.length : Int).toNat
      case neg => rw [if_neg g21] at H; cases H
      rw [if_pos g21] at H
      obtain ⟨rContainsFunc, e22, H⟩ := bsome H
      repeat apply TW.seq
      apply TW.region (envs_ok ax) [] [(.bool rContainsFunc, stL [.cells true 3 [lNodes n.nodes, lLinks n.links, lEdges n.edges], .cells true 2 [ints f_.links, .int .i64 f_.node], .cells true ((n.nodes.length : Int).toNat) (((s_2.set from_.toNat 0).set to_.toNat 0).map (T.int .i64))])]
      · kernel_rfl
      · simp (disch := first | omega | decide | (simp only [lzA, Nat.reduceAdd, Nat.reduceLT]; done) | fail) only [b0, b1, b2, b3, b4, b5, b6, b7, b8, Nat.reduceAdd, Nat.reduceEqDiff, Nat.reduceMul, reduceIte, reduceCtorEq, h16, h12, c2f, decide_eq_false c20, encA]
        with_reducible rfl
      · exact ⟨(by have q := Call0.call (Pure.lend (S := stL [.cells true 3 [lNodes n.nodes, lLinks n.links, lEdges n.edges], .cells true 2 [ints f_.links, .int .i64 f_.node], .cells true ((n.nodes.length : Int).toNat) (((s_2.set from_.toNat 0).set to_.toNat 0).map (T.int .i64))]) (args := [.arr 2 1 0 ((n.nodes.length : Int).toNat) ((n.nodes.length : Int).toNat) ((n.nodes.length : Int).toNat), .fn 37 [] []]) (sslices_ContainsFunc_ok ax hx k ((s_2.set from_.toNat 0).set to_.toNat 0) (fun y => sflow_Check_1 k y) rContainsFunc e22 37 [] (by simp only [ids2B, ids2C, idsA, idsB, Bool.and_self]) (fun y w hw => by first | exact sflow_Check_1_ok ax hx k y w hw | exact (sflow_Check_1_ok ax hx k y w hw))) (And.intro (lend_map (fun _ => rfl) (by rfl) g21) (And.intro (Or.inl rfl) (trivial))) rfl); (try simp only [c2f] at q); exact q), trivial⟩
      simp only [onT, onTB]
      refine TW.gen (bs := [.cells true 3 [lNodes n.nodes, lLinks n.links, lEdges n.edges], .cells true 2 [ints f_.links, .int .i64 f_.node], .cells true ((n.nodes.length : Int).toNat) (((s_2.set from_.toNat 0).set to_.toNat 0).map (T.int .i64))]) (fun h => h 16 = .int .i64 (s_2.getD from_.toNat default) ∧ h 95 = .bool rContainsFunc) ?_ ?_ ?_
      · rfl
      · exact ⟨h16, rfl⟩
      clear h12 h16 h
      rintro h ⟨h16, h95⟩
      by_cases c23 : rContainsFunc = true
      case neg =>
        rw [if_neg c23] at H
        have c23f := (Bool.not_eq_true _).mp c23
        repeat apply TW.seq
        refine TW.cond (b := false) ?_ ?_
        · simp only [eT_tmp, eT_const, kT_bool, h95, c2f, decide_eq_false c20, c23f, Bool.not_true, Bool.not_false]
        simp only [cond_true, cond_false]
        repeat apply TW.seq
        apply TW.skip
        simp only [onT, onTB]
        repeat apply TW.seq
        apply TW.region (envs_ok ax) [] []
        · kernel_rfl
        · simp (disch := first | omega | decide | (simp only [lzA, Nat.reduceAdd, Nat.reduceLT]; done) | fail) only [b0, b1, b2, b3, b4, b5, b6, b7, b8, Nat.reduceAdd, Nat.reduceEqDiff, Nat.reduceMul, reduceIte, reduceCtorEq, h16, c2f, decide_eq_false c20, c23f, encA]
          with_reducible rfl
        · exact trivial
        simp only [onT, onTB]
        refine TW.gen (bs := [.cells true 3 [lNodes n.nodes, lLinks n.links, lEdges n.edges], .cells true 2 [ints f_.links, .int .i64 f_.node], .cells true ((n.nodes.length : Int).toNat) (((s_2.set from_.toNat 0).set to_.toNat 0).map (T.int .i64))]) (fun h => h 10 = .int .i64 (s_2.getD from_.toNat default) ∧ h 11 = .bool true) ?_ ?_ ?_
        · rfl
        · exact ⟨rfl, rfl⟩
        clear h16 h95 h
        rintro h ⟨h10, h11⟩
        apply TW.ret
        cases H
        refine ⟨.inr rfl, ?_⟩
        first | (simp only [Try.results11, resT, h10, h11]; done) | (simp only [Try.results11, resT, h10, h11]; rfl)
      rw [if_pos c23] at H
      repeat apply TW.seq
      refine TW.cond (b := true) ?_ ?_
      · simp only [eT_tmp, eT_const, kT_bool, h95, c2f, decide_eq_false c20, c23, Bool.not_true, Bool.not_false]
      simp only [cond_true, cond_false]
      repeat apply TW.seq
      apply TW.region (envs_ok ax) [] []
      · kernel_rfl
      · simp (disch := first | omega | decide | (simp only [lzA, Nat.reduceAdd, Nat.reduceLT]; done) | fail) only [b0, b1, b2, b3, b4, b5, b6, b7, b8, Nat.reduceAdd, Nat.reduceEqDiff, Nat.reduceMul, reduceIte, reduceCtorEq, c2f, decide_eq_false c20, c23, encA]
        with_reducible rfl
      · exact trivial
      simp only [onT, onTB]
      refine TW.gen (bs := [.cells true 3 [lNodes n.nodes, lLinks n.links, lEdges n.edges], .cells true 2 [ints f_.links, .int .i64 f_.node], .cells true ((n.nodes.length : Int).toNat) (((s_2.set from_.toNat 0).set to_.toNat 0).map (T.int .i64))]) (fun h => h 10 = .int .i64 0 ∧ h 11 = .bool false) ?_ ?_ ?_
      · rfl
      · exact ⟨rfl, rfl⟩
      clear h16 h95 h
      rintro h ⟨h10, h11⟩
      apply TW.ret
      cases H
      refine ⟨.inr rfl, ?_⟩
      first | (simp only [Try.results11, resT, h10, h11]; done) | (simp only [Try.results11, resT, h10, h11]; rfl)
    rw [if_pos c20] at H
    repeat apply TW.seq
    apply TW.region (envs_ok ax) [] []
    · kernel_rfl
    · simp (disch := first | omega | decide | (simp only [lzA, Nat.reduceAdd, Nat.reduceLT]; done) | fail) only [b0, b1, b2, b3, b4, b5, b6, b7, b8, Nat.reduceAdd, Nat.reduceEqDiff, Nat.reduceMul, reduceIte, reduceCtorEq, h16, h12, c2f, decide_eq_true c20, encA]
      with_reducible rfl
    · exact trivial
    simp only [onT, onTB]
    refine TW.gen (bs := [.cells true 3 [lNodes n.nodes, lLinks n.links, lEdges n.edges], .cells true 2 [ints f_.links, .int .i64 f_.node], .cells true ((n.nodes.length : Int).toNat) (((s_2.set from_.toNat 0).set to_.toNat 0).map (T.int .i64))]) (fun h => h 16 = .int .i64 (s_2.getD from_.toNat default) ∧ h 95 = .bool true) ?_ ?_ ?_
    · rfl
    · exact ⟨h16, rfl⟩
    clear h12 h16 h
    rintro h ⟨h16, h95⟩
    repeat apply TW.seq
    refine TW.cond (b := true) ?_ ?_
    · simp only [eT_tmp, eT_const, kT_bool, h95, c2f, decide_eq_true c20, Bool.not_true, Bool.not_false]
    simp only [cond_true, cond_false]
    repeat apply TW.seq
    apply TW.region (envs_ok ax) [] []
    · kernel_rfl
    · simp (disch := first | omega | decide | (simp only [lzA, Nat.reduceAdd, Nat.reduceLT]; done) | fail) only [b0, b1, b2, b3, b4, b5, b6, b7, b8, Nat.reduceAdd, Nat.reduceEqDiff, Nat.reduceMul, reduceIte, reduceCtorEq, c2f, decide_eq_true c20, encA]
      with_reducible rfl
    · exact trivial
    simp only [onT, onTB]
    refine TW.gen (bs := [.cells true 3 [lNodes n.nodes, lLinks n.links, lEdges n.edges], .cells true 2 [ints f_.links, .int .i64 f_.node], .cells true ((n.nodes.length : Int).toNat) (((s_2.set from_.toNat 0).set to_.toNat 0).map (T.int .i64))]) (fun h => h 10 = .int .i64 0 ∧ h 11 = .bool false) ?_ ?_ ?_
    · rfl
    · exact ⟨rfl, rfl⟩
    clear h16 h95 h
    rintro h ⟨h10, h11⟩
    apply TW.ret
    cases H
    refine ⟨.inr rfl, ?_⟩
    first | (simp only [Try.results11, resT, h10, h11]; done) | (simp only [Try.results11, resT, h10, h11]; rfl)
  rw [if_pos c2] at H
  repeat apply TW.seq
  refine TW.cond (b := true) ?_ ?_
  · simp only [eT_tmp, eT_const, kT_bool, h27, c2, Bool.not_true, Bool.not_false]
  simp only [cond_true, cond_false]
  repeat apply TW.seq
  apply TW.region (envs_ok ax) [] []
  · kernel_rfl
  · simp (disch := first | omega | decide | (simp only [lzA, Nat.reduceAdd, Nat.reduceLT]; done) | fail) only [b0, b1, b2, b3, b4, b5, b6, b7, b8, Nat.reduceAdd, Nat.reduceEqDiff, Nat.reduceMul, reduceIte, reduceCtorEq, c2, encA]
    with_reducible rfl
  · exact trivial
  simp only [onT, onTB]
  refine TW.gen (bs := [.cells true 3 [lNodes n.nodes, lLinks n.links, lEdges n.edges], .cells true 2 [ints f_.links, .int .i64 f_.node]]) (fun h => h 10 = .int .i64 0 ∧ h 11 = .bool false) ?_ ?_ ?_
  · rfl
  · exact ⟨rfl, rfl⟩
  clear h2 h3 h4 h5 h6 h27 h
  rintro h ⟨h10, h11⟩
  apply TW.ret
  cases H
  refine ⟨.inr rfl, ?_⟩
  first | (simp only [Try.results11, resT, h10, h11]; done) | (simp only [Try.results11, resT, h10, h11]; rfl)
def sflow_Greatest_L0 (k : Nat) (n : Net) (cut : List Int) : Nat → Int → Option (Bool ⊕ Unit)
  | 0, _ => none
  | m + 1, i => (if i < (cut.length : Int) then (if (0 : Int) ≤ i ∧ i < (cut.length : Int) then ((sflow_isNode k n (gx cut i)).bind fun risNode => (if risNode = true then (if 0 < i then (if (0 : Int) ≤ (IntKind.i64.wrap (i - 1)) ∧ (IntKind.i64.wrap (i - 1)) < (cut.length : Int) then (if (gx cut i) ≤ (gx cut (IntKind.i64.wrap (i - 1))) then some (.inl false) else sflow_Greatest_L0 k n cut m (IntKind.i64.wrap (i + 1))) else none) else sflow_Greatest_L0 k n cut m (IntKind.i64.wrap (i + 1))) else some (.inl false))) else none) else some (.inr ()))
def sflow_Greatest (k : Nat) (n : Net) (f_ : Failure) (from_ : Int) (to_ : Int) (flow : List Int) (cut : List Int) : Option Bool := ((sflow_Check k n f_ from_ to_ flow).bind fun rCheck => ((sflow_Greatest_L0 k n cut k 0 : Option (Bool ⊕ Unit)).bind fun o => Sum.elim (fun r => some r) (fun s_ => (if rCheck.2 = true then ((sslices_Contains k cut from_).bind fun rContains => (if rContains = true then ((sslices_Contains k cut to_).bind fun rContains2 => (if rContains2 = true then some false else ((sflow_Capacity k n f_ cut).bind fun rCapacity => some (decide (rCapacity = rCheck.1))))) else some false)) else some false)) o))
set_option maxHeartbeats 8000000 in
theorem sflow_Greatest_ok (ax : Axs) (hx : Plain ax) (k : Nat) (n : Net) (f_ : Failure) (from_ : Int) (to_ : Int) (flow : List Int) (cut : List Int) (v : Bool) (H : sflow_Greatest k n f_ from_ to_ flow cut = some v) : Pure Try.prog (EE ax) [] 13 [eNet n, eFail f_, .int .i64 from_, .int .i64 to_, ints flow, ints cut] (.bool v) := by
  rw [sflow_Greatest] at H
  refine Pure.enter (fn := Try.f13) 71 (hx.no _ (by decide)) (fn13 ax) rfl Try.ntmps13 (by decide) (by simp) (by simp only [ids2B, ids2C, idsA, idsB, Bool.and_self]) (by first | rfl | simp only [ids2B, ids2C, idsA, idsB, Bool.and_self] | simp only [tupT, ids2B, ids2C, idsA, idsB, Bool.and_self]) ?_
  simp only [argT_cons, argT_nil, Nat.reduceAdd]
  refine TW.gen (bs := []) (fun h => h 0 = eNet n ∧ h 1 = eFail f_ ∧ h 2 = .int .i64 from_ ∧ h 3 = .int .i64 to_ ∧ h 4 = ints flow ∧ h 5 = ints cut) rfl ?_ ?_
  · exact ⟨rfl, rfl, rfl, rfl, rfl, rfl⟩
  rintro h ⟨h0, h1, h2, h3, h4, h5⟩
  repeat apply TW.seq
  apply TW.region (envs_ok ax) [] []
  · kernel_rfl
  · simp (disch := first | omega | decide | (simp only [lzA, Nat.reduceAdd, Nat.reduceLT]; done) | fail) only [b0, b1, b2, b3, b4, b5, b6, b7, b8, Nat.reduceAdd, Nat.reduceEqDiff, Nat.reduceMul, reduceIte, reduceCtorEq, h0, h1, encA]
    with_reducible rfl
  · exact trivial
  simp only [onT, onTB]
  refine TW.gen (bs := [.cells true 3 [lNodes n.nodes, lLinks n.links, lEdges n.edges], .cells true 2 [ints f_.links, .int .i64 f_.node]]) (fun h => h 2 = .int .i64 from_ ∧ h 3 = .int .i64 to_ ∧ h 4 = ints flow ∧ h 5 = ints cut ∧ h 6 = .ptr 0 0 3 ∧ h 7 = .ptr 1 0 2) ?_ ?_ ?_
  · rfl
  · exact ⟨h2, h3, h4, h5, rfl, rfl⟩
  clear h0 h1 h2 h3 h4 h5 h
  rintro h ⟨h2, h3, h4, h5, h6, h7⟩
  obtain ⟨rCheck, e1, H⟩ := bsome H
  repeat apply TW.seq
  apply TW.region (envs_ok ax) [] [(.tup [.int .i64 rCheck.1, .bool rCheck.2], stL [.cells true 3 [lNodes n.nodes, lLinks n.links, lEdges n.edges], .cells true 2 [ints f_.links, .int .i64 f_.node]])]
  · kernel_rfl
  · simp (disch := first | omega | decide | (simp only [lzA, Nat.reduceAdd, Nat.reduceLT]; done) | fail) only [b0, b1, b2, b3, b4, b5, b6, b7, b8, Nat.reduceAdd, Nat.reduceEqDiff, Nat.reduceMul, reduceIte, reduceCtorEq, h6, h7, h2, h3, h4, ti26 ax, ti29 ax, encA]
    with_reducible rfl
  · exact ⟨(by have q := Call0.call ((sflow_Check_ok ax hx k n f_ from_ to_ flow rCheck e1 ).call (stL [.cells true 3 [lNodes n.nodes, lLinks n.links, lEdges n.edges], .cells true 2 [ints f_.links, .int .i64 f_.node]])); exact q), trivial⟩
  simp only [onT, onTB]
  refine TW.gen (bs := [.cells true 3 [lNodes n.nodes, lLinks n.links, lEdges n.edges], .cells true 2 [ints f_.links, .int .i64 f_.node]]) (fun h => h 2 = .int .i64 from_ ∧ h 3 = .int .i64 to_ ∧ h 5 = ints cut ∧ h 6 = .ptr 0 0 3 ∧ h 7 = .ptr 1 0 2 ∧ h 13 = .int .i64 rCheck.1 ∧ h 14 = .bool rCheck.2) ?_ ?_ ?_
  · rfl
  · exact ⟨h2, h3, h5, h6, h7, rfl, rfl⟩
  clear h2 h3 h4 h5 h6 h7 h
  rintro h ⟨h2, h3, h5, h6, h7, h13, h14⟩
  repeat apply TW.seq
  apply TW.region (envs_ok ax) [] []
  · kernel_rfl
  · simp (disch := first | omega | decide | (simp only [lzA, Nat.reduceAdd, Nat.reduceLT]; done) | fail) only [b0, b1, b2, b3, b4, b5, b6, b7, b8, Nat.reduceAdd, Nat.reduceEqDiff, Nat.reduceMul, reduceIte, reduceCtorEq, h5, ti27 ax, encA]
    with_reducible rfl
  · exact trivial
  simp only [onT, onTB]
  refine TW.gen (bs := [.cells true 3 [lNodes n.nodes, lLinks n.links, lEdges n.edges], .cells true 2 [ints f_.links, .int .i64 f_.node]]) (fun h => h 2 = .int .i64 from_ ∧ h 3 = .int .i64 to_ ∧ h 5 = ints cut ∧ h 6 = .ptr 0 0 3 ∧ h 7 = .ptr 1 0 2 ∧ h 13 = .int .i64 rCheck.1 ∧ h 14 = .bool rCheck.2 ∧ h 26 = ints cut ∧ h 27 = .int .i64 (cut.length : Int) ∧ h 28 = .int .i64 0) ?_ ?_ ?_
  · rfl
  · exact ⟨h2, h3, h5, h6, h7, h13, h14, rfl, rfl, rfl⟩
  clear h2 h3 h5 h6 h7 h13 h14 h
  rintro h ⟨h2, h3, h5, h6, h7, h13, h14, h26, h27, h28⟩
  obtain ⟨o, H1, H⟩ := bsome H
  repeat apply TW.seq
  refine TW.cutN [2, 3, 5, 6, 7, 13, 14] 2 (by simp only [lzA] <;> omega) (fun h bs => ∃ s_ : Unit, o = .inr s_ ∧ h 2 = .int .i64 from_ ∧ h 3 = .int .i64 to_ ∧ h 5 = ints cut ∧ h 6 = .ptr 0 0 3 ∧ h 7 = .ptr 1 0 2 ∧ h 13 = .int .i64 rCheck.1 ∧ h 14 = .bool rCheck.2 ∧ bs = [.cells true 3 [lNodes n.nodes, lLinks n.links, lEdges n.edges], .cells true 2 [ints f_.links, .int .i64 f_.node]]) ?_ ?_
  · skip
    repeat apply TW.seq
    apply TW.block
    repeat apply TW.seq
    refine TW.loopT [2, 3, 5, 6, 7, 13, 14, 26, 27, 28] (fun m h bs => ∃ (i : Int), sflow_Greatest_L0 k n cut m i = some o ∧ h 2 = .int .i64 from_ ∧ h 3 = .int .i64 to_ ∧ h 5 = ints cut ∧ h 6 = .ptr 0 0 3 ∧ h 7 = .ptr 1 0 2 ∧ h 13 = .int .i64 rCheck.1 ∧ h 14 = .bool rCheck.2 ∧ h 26 = ints cut ∧ h 27 = .int .i64 (cut.length : Int) ∧ h 28 = .int .i64 i ∧ bs = [.cells true 3 [lNodes n.nodes, lLinks n.links, lEdges n.edges], .cells true 2 [ints f_.links, .int .i64 f_.node]]) ?_ k _ _ ?_
    rotate_left
    · exact ⟨0, H1, (by first | exact h2 | (rw [h2]; rfl)), (by first | exact h3 | (rw [h3]; rfl)), (by first | exact h5 | (rw [h5]; rfl)), (by first | exact h6 | (rw [h6]; rfl)), (by first | exact h7 | (rw [h7]; rfl)), (by first | exact h13 | (rw [h13]; rfl)), (by first | exact h14 | (rw [h14]; rfl)), (by first | exact h26 | (rw [h26]; rfl)), (by first | exact h27 | (rw [h27]; rfl)), (by first | exact h28 | (rw [h28]; rfl)), rfl⟩
    clear h2 h3 h5 h6 h7 h13 h14 h26 h27 h28 h
    clear H1
    rintro m h bs ⟨i, H1, h2, h3, h5, h6, h7, h13, h14, h26, h27, h28, rfl⟩
    rcases m with _ | m
    · rw [sflow_Greatest_L0] at H1; cases H1
    rw [sflow_Greatest_L0] at H1
    repeat apply TW.seq
    apply TW.region (envs_ok ax) [] []
    · kernel_rfl
    · simp (disch := first | omega | decide | (simp only [lzA, Nat.reduceAdd, Nat.reduceLT]; done) | fail) only [b0, b1, b2, b3, b4, b5, b6, b7, b8, Nat.reduceAdd, Nat.reduceEqDiff, Nat.reduceMul, reduceIte, reduceCtorEq, h28, h27, encA]
      with_reducible rfl
    · exact trivial
    simp only [onT, onTB]
    refine TW.gen (bs := [.cells true 3 [lNodes n.nodes, lLinks n.links, lEdges n.edges], .cells true 2 [ints f_.links, .int .i64 f_.node]]) (fun h => h 2 = .int .i64 from_ ∧ h 3 = .int .i64 to_ ∧ h 5 = ints cut ∧ h 6 = .ptr 0 0 3 ∧ h 7 = .ptr 1 0 2 ∧ h 13 = .int .i64 rCheck.1 ∧ h 14 = .bool rCheck.2 ∧ h 26 = ints cut ∧ h 27 = .int .i64 (cut.length : Int) ∧ h 28 = .int .i64 i ∧ h 29 = .bool (decide (i < (cut.length : Int)))) ?_ ?_ ?_
    · rfl
    · exact ⟨h2, h3, h5, h6, h7, h13, h14, h26, h27, h28, rfl⟩
    clear h2 h3 h5 h6 h7 h13 h14 h26 h27 h28 h
    rintro h ⟨h2, h3, h5, h6, h7, h13, h14, h26, h27, h28, h29⟩
    by_cases c2 : i < (cut.length : Int)
    case neg =>
      rw [if_neg c2] at H1
      repeat apply TW.seq
      refine TW.cond (b := false) ?_ ?_
      · simp only [eT_tmp, eT_const, kT_bool, h29, decide_eq_false c2, Bool.not_true, Bool.not_false]
      simp only [cond_true, cond_false]
      apply TW.exit
      simp (disch := decide) only [onT, onTB, Nat.beq_refl, beq_no, cond_true, cond_false]
      cases H1
      refine ⟨_, rfl, by simp only [lzA] <;> omega, ?_, ?_, ?_⟩
      · simp only [ids2A, ids2B, ids2C, reduceIte, Nat.reduceEqDiff, Nat.reduceAdd, Nat.reduceLT, Nat.reduceLeDiff, idsA, idsB, h2, h3, h5, h6, h7, h13, h14, h26, h27, h28, h29]
      · simp only [ids2A, ids2B, ids2C, reduceIte, Nat.reduceEqDiff, Nat.reduceAdd, Nat.reduceLT, Nat.reduceLeDiff, idsA, idsB, h2, h3, h5, h6, h7, h13, h14, h26, h27, h28, h29]
      · exact ⟨_, rfl, (keepT_at (by decide)).trans (by first | exact h2 | (rw [h2]; rfl)), (keepT_at (by decide)).trans (by first | exact h3 | (rw [h3]; rfl)), (keepT_at (by decide)).trans (by first | exact h5 | (rw [h5]; rfl)), (keepT_at (by decide)).trans (by first | exact h6 | (rw [h6]; rfl)), (keepT_at (by decide)).trans (by first | exact h7 | (rw [h7]; rfl)), (keepT_at (by decide)).trans (by first | exact h13 | (rw [h13]; rfl)), (keepT_at (by decide)).trans (by first | exact h14 | (rw [h14]; rfl)), (by first | rfl | trivial)⟩
    rw [if_pos c2] at H1
    repeat apply TW.seq
    refine TW.cond (b := true) ?_ ?_
    · simp only [eT_tmp, eT_const, kT_bool, h29, decide_eq_true c2, Bool.not_true, Bool.not_false]
    simp only [cond_true, cond_false]
    repeat apply TW.seq
    apply TW.skip
    simp only [onT, onTB]
    repeat apply TW.seq
    apply TW.block
    by_cases g3 : (0 : Int) ≤ i ∧ i < (cut.length : Int)
    case neg => rw [if_neg g3] at H1; cases H1
    rw [if_pos g3] at H1
    repeat apply TW.seq
    apply TW.region (envs_ok ax) [] []
    · kernel_rfl
    · simp (disch := first | omega | decide | (simp only [lzA, Nat.reduceAdd, Nat.reduceLT]; done) | fail) only [b0, b1, b2, b3, b4, b5, b6, b7, b8, Nat.reduceAdd, Nat.reduceEqDiff, Nat.reduceMul, reduceIte, reduceCtorEq, h28, h26, decide_eq_true c2, gx_some g3, ti27 ax, ti3 ax, encA]
      with_reducible rfl
    · exact trivial
    simp only [onT, onTB]
    refine TW.gen (bs := [.cells true 3 [lNodes n.nodes, lLinks n.links, lEdges n.edges], .cells true 2 [ints f_.links, .int .i64 f_.node]]) (fun h => h 2 = .int .i64 from_ ∧ h 3 = .int .i64 to_ ∧ h 5 = ints cut ∧ h 6 = .ptr 0 0 3 ∧ h 7 = .ptr 1 0 2 ∧ h 13 = .int .i64 rCheck.1 ∧ h 14 = .bool rCheck.2 ∧ h 15 = .int .i64 i ∧ h 16 = .int .i64 (gx cut i) ∧ h 26 = ints cut ∧ h 27 = .int .i64 (cut.length : Int) ∧ h 28 = .int .i64 i) ?_ ?_ ?_
    · rfl
    · exact ⟨h2, h3, h5, h6, h7, h13, h14, rfl, rfl, h26, h27, h28⟩
    clear h2 h3 h5 h6 h7 h13 h14 h26 h27 h28 h29 h
    rintro h ⟨h2, h3, h5, h6, h7, h13, h14, h15, h16, h26, h27, h28⟩
    obtain ⟨risNode, e4, H1⟩ := bsome H1
    by_cases c5 : risNode = true
    case neg =>
      rw [if_neg c5] at H1
      have c5f := (Bool.not_eq_true _).mp c5
      repeat apply TW.seq
      apply TW.region (envs_ok ax) [] [(.bool risNode, stL [.cells true 3 [lNodes n.nodes, lLinks n.links, lEdges n.edges], .cells true 2 [ints f_.links, .int .i64 f_.node]])]
      · kernel_rfl
      · simp (maxSteps := 900000) (disch := first | omega | decide | (simp only [lzA, Nat.reduceAdd, Nat.reduceLT]; done) | fail) only [b0, b1, b2, b3, b4, b5, b6, b7, b8, Nat.reduceAdd, Nat.reduceEqDiff, Nat.reduceMul, reduceIte, reduceCtorEq, h6, h16, h15, h5, decide_eq_true c2, c5f, ti26 ax, encA]
        with_reducible rfl
      · exact ⟨(by have q := Call0.call ((sflow_isNode_ok ax hx k n (gx cut i) risNode e4 ).call (stL [.cells true 3 [lNodes n.nodes, lLinks n.links, lEdges n.edges], .cells true 2 [ints f_.links, .int .i64 f_.node]])); (try simp only [c5f] at q); exact q), trivial⟩
      simp only [onT, onTB]
      refine TW.gen (bs := [.cells true 3 [lNodes n.nodes, lLinks n.links, lEdges n.edges], .cells true 2 [ints f_.links, .int .i64 f_.node]]) (fun h => h 2 = .int .i64 from_ ∧ h 3 = .int .i64 to_ ∧ h 5 = ints cut ∧ h 6 = .ptr 0 0 3 ∧ h 7 = .ptr 1 0 2 ∧ h 13 = .int .i64 rCheck.1 ∧ h 14 = .bool rCheck.2 ∧ h 26 = ints cut ∧ h 27 = .int .i64 (cut.length : Int) ∧ h 28 = .int .i64 i ∧ h 49 = .bool true) ?_ ?_ ?_
      · rfl
      · exact ⟨h2, h3, h5, h6, h7, h13, h14, h26, h27, h28, rfl⟩
      clear h2 h3 h5 h6 h7 h13 h14 h15 h16 h26 h27 h28 h
      rintro h ⟨h2, h3, h5, h6, h7, h13, h14, h26, h27, h28, h49⟩
      repeat apply TW.seq
      refine TW.cond (b := true) ?_ ?_
      · simp only [eT_tmp, eT_const, kT_bool, h49, decide_eq_true c2, c5f, Bool.not_true, Bool.not_false]
      simp only [cond_true, cond_false]
      repeat apply TW.seq
      apply TW.region (envs_ok ax) [] []
      · kernel_rfl
      · simp (disch := first | omega | decide | (simp only [lzA, Nat.reduceAdd, Nat.reduceLT]; done) | fail) only [b0, b1, b2, b3, b4, b5, b6, b7, b8, Nat.reduceAdd, Nat.reduceEqDiff, Nat.reduceMul, reduceIte, reduceCtorEq, decide_eq_true c2, c5f, encA]
        with_reducible rfl
      · exact trivial
      simp only [onT, onTB]
      refine TW.gen (bs := [.cells true 3 [lNodes n.nodes, lLinks n.links, lEdges n.edges], .cells true 2 [ints f_.links, .int .i64 f_.node]]) (fun h => h 12 = .bool false) ?_ ?_ ?_
      · rfl
      · exact rfl
      clear h2 h3 h5 h6 h7 h13 h14 h26 h27 h28 h49 h
      rintro h h12
      apply TW.ret
      cases H1
      rw [Sum.elim_inl] at H
      cases H
      refine ⟨.inr rfl, ?_⟩
      first | (simp only [Try.results13, resT, h12]; done) | (simp only [Try.results13, resT, h12]; rfl)
    rw [if_pos c5] at H1
    by_cases c6 : 0 < i
    case neg =>
      rw [if_neg c6] at H1
      repeat apply TW.seq
      apply TW.region (envs_ok ax) [] [(.bool risNode, stL [.cells true 3 [lNodes n.nodes, lLinks n.links, lEdges n.edges], .cells true 2 [ints f_.links, .int .i64 f_.node]])]
      · kernel_rfl
      · simp (maxSteps := 900000) (disch := first | omega | decide | (simp only [lzA, Nat.reduceAdd, Nat.reduceLT]; done) | fail) only [b0, b1, b2, b3, b4, b5, b6, b7, b8, Nat.reduceAdd, Nat.reduceEqDiff, Nat.reduceMul, reduceIte, reduceCtorEq, h6, h16, h15, h5, decide_eq_true c2, c5, decide_eq_false c6, ti26 ax, encA]
        with_reducible rfl
      · exact ⟨(by have q := Call0.call ((sflow_isNode_ok ax hx k n (gx cut i) risNode e4 ).call (stL [.cells true 3 [lNodes n.nodes, lLinks n.links, lEdges n.edges], .cells true 2 [ints f_.links, .int .i64 f_.node]])); (try simp only [c5] at q); exact q), trivial⟩
      simp only [onT, onTB]
      refine TW.gen (bs := [.cells true 3 [lNodes n.nodes, lLinks n.links, lEdges n.edges], .cells true 2 [ints f_.links, .int .i64 f_.node]]) (fun h => h 2 = .int .i64 from_ ∧ h 3 = .int .i64 to_ ∧ h 5 = ints cut ∧ h 6 = .ptr 0 0 3 ∧ h 7 = .ptr 1 0 2 ∧ h 13 = .int .i64 rCheck.1 ∧ h 14 = .bool rCheck.2 ∧ h 26 = ints cut ∧ h 27 = .int .i64 (cut.length : Int) ∧ h 28 = .int .i64 i ∧ h 49 = .bool false) ?_ ?_ ?_
      · rfl
      · exact ⟨h2, h3, h5, h6, h7, h13, h14, h26, h27, h28, rfl⟩
      clear h2 h3 h5 h6 h7 h13 h14 h15 h16 h26 h27 h28 h
      rintro h ⟨h2, h3, h5, h6, h7, h13, h14, h26, h27, h28, h49⟩
      repeat apply TW.seq
      refine TW.cond (b := false) ?_ ?_
      · simp only [eT_tmp, eT_const, kT_bool, h49, decide_eq_true c2, c5, decide_eq_false c6, Bool.not_true, Bool.not_false]
      simp only [cond_true, cond_false]
      repeat apply TW.seq
      apply TW.skip
      simp only [onT, onTB]
      repeat apply TW.seq
      apply TW.region (envs_ok ax) [] []
      · kernel_rfl
      · simp (disch := first | omega | decide | (simp only [lzA, Nat.reduceAdd, Nat.reduceLT]; done) | fail) only [b0, b1, b2, b3, b4, b5, b6, b7, b8, Nat.reduceAdd, Nat.reduceEqDiff, Nat.reduceMul, reduceIte, reduceCtorEq, h28, decide_eq_true c2, c5, decide_eq_false c6, encA]
        with_reducible rfl
      · exact trivial
      simp only [onT, onTB]

      refine ⟨m, by omega, _, rfl, by simp only [lzA] <;> omega, ?_, ?_, ?_⟩
      · simp only [ids2A, ids2B, ids2C, reduceIte, Nat.reduceEqDiff, Nat.reduceAdd, Nat.reduceLT, Nat.reduceLeDiff, idsA, idsB, h2, h3, h5, h6, h7, h13, h14, h26, h27, h28, h49]
      · simp only [ids2A, ids2B, ids2C, reduceIte, Nat.reduceEqDiff, Nat.reduceAdd, Nat.reduceLT, Nat.reduceLeDiff, idsA, idsB, h2, h3, h5, h6, h7, h13, h14, h26, h27, h28, h49]
      · exact ⟨(IntKind.i64.wrap (i + 1)), H1, (keepT_at (by decide)).trans h2, (keepT_at (by decide)).trans h3, (keepT_at (by decide)).trans h5, (keepT_at (by decide)).trans h6, (keepT_at (by decide)).trans h7, (keepT_at (by decide)).trans h13, (keepT_at (by decide)).trans h14, (keepT_at (by decide)).trans h26, (keepT_at (by decide)).trans h27, (keepT_at (by decide)).trans rfl, (by first | rfl | trivial)⟩
    rw [if_pos c6] at H1
    by_cases g7 : (0 : Int) ≤ (IntKind.i64.wrap (i - 1)) ∧ (IntKind.i64.wrap (i - 1)) < (cut.length : Int)
    case neg => rw [if_neg g7] at H1; cases H1
    rw [if_pos g7] at H1
    repeat apply TW.seq
    apply TW.region (envs_ok ax) [] [(.bool risNode, stL [.cells true 3 [lNodes n.nodes, lLinks n.links, lEdges n.edges], .cells true 2 [ints f_.links, .int .i64 f_.node]])]
    · kernel_rfl
    · simp (maxSteps := 900000) (disch := first | omega | decide | (simp only [lzA, Nat.reduceAdd, Nat.reduceLT]; done) | fail) only [b0, b1, b2, b3, b4, b5, b6, b7, b8, Nat.reduceAdd, Nat.reduceEqDiff, Nat.reduceMul, reduceIte, reduceCtorEq, h6, h16, h15, h5, decide_eq_true c2, c5, decide_eq_true c6, gx_some g7, ti26 ax, ti27 ax, ti3 ax, encA]
      with_reducible rfl
    · exact ⟨(by have q := Call0.call ((sflow_isNode_ok ax hx k n (gx cut i) risNode e4 ).call (stL [.cells true 3 [lNodes n.nodes, lLinks n.links, lEdges n.edges], .cells true 2 [ints f_.links, .int .i64 f_.node]])); (try simp only [c5] at q); exact q), trivial⟩
    simp only [onT, onTB]
    refine TW.gen (bs := [.cells true 3 [lNodes n.nodes, lLinks n.links, lEdges n.edges], .cells true 2 [ints f_.links, .int .i64 f_.node]]) (fun h => h 2 = .int .i64 from_ ∧ h 3 = .int .i64 to_ ∧ h 5 = ints cut ∧ h 6 = .ptr 0 0 3 ∧ h 7 = .ptr 1 0 2 ∧ h 13 = .int .i64 rCheck.1 ∧ h 14 = .bool rCheck.2 ∧ h 26 = ints cut ∧ h 27 = .int .i64 (cut.length : Int) ∧ h 28 = .int .i64 i ∧ h 49 = .bool (decide ((gx cut i) ≤ (gx cut (IntKind.i64.wrap (i - 1)))))) ?_ ?_ ?_
    · rfl
    · exact ⟨h2, h3, h5, h6, h7, h13, h14, h26, h27, h28, rfl⟩
    clear h2 h3 h5 h6 h7 h13 h14 h15 h16 h26 h27 h28 h
    rintro h ⟨h2, h3, h5, h6, h7, h13, h14, h26, h27, h28, h49⟩
    by_cases c8 : (gx cut i) ≤ (gx cut (IntKind.i64.wrap (i - 1)))
    case neg =>
      rw [if_neg c8] at H1
      repeat apply TW.seq
      refine TW.cond (b := false) ?_ ?_
      · simp only [eT_tmp, eT_const, kT_bool, h49, decide_eq_true c2, c5, decide_eq_true c6, decide_eq_false c8, Bool.not_true, Bool.not_false]
      simp only [cond_true, cond_false]
      repeat apply TW.seq
      apply TW.skip
      simp only [onT, onTB]
      repeat apply TW.seq
      apply TW.region (envs_ok ax) [] []
      · kernel_rfl
      · simp (disch := first | omega | decide | (simp only [lzA, Nat.reduceAdd, Nat.reduceLT]; done) | fail) only [b0, b1, b2, b3, b4, b5, b6, b7, b8, Nat.reduceAdd, Nat.reduceEqDiff, Nat.reduceMul, reduceIte, reduceCtorEq, h28, decide_eq_true c2, c5, decide_eq_true c6, decide_eq_false c8, encA]
        with_reducible rfl
      · exact trivial
      simp only [onT, onTB]

      refine ⟨m, by omega, _, rfl, by simp only [lzA] <;> omega, ?_, ?_, ?_⟩
      · simp only [ids2A, ids2B, ids2C, reduceIte, Nat.reduceEqDiff, Nat.reduceAdd, Nat.reduceLT, Nat.reduceLeDiff, idsA, idsB, h2, h3, h5, h6, h7, h13, h14, h26, h27, h28, h49]
      · simp only [ids2A, ids2B, ids2C, reduceIte, Nat.reduceEqDiff, Nat.reduceAdd, Nat.reduceLT, Nat.reduceLeDiff, idsA, idsB, h2, h3, h5, h6, h7, h13, h14, h26, h27, h28, h49]
      · exact ⟨(IntKind.i64.wrap (i + 1)), H1, (keepT_at (by decide)).trans h2, (keepT_at (by decide)).trans h3, (keepT_at (by decide)).trans h5, (keepT_at (by decide)).trans h6, (keepT_at (by decide)).trans h7, (keepT_at (by decide)).trans h13, (keepT_at (by decide)).trans h14, (keepT_at (by decide)).trans h26, (keepT_at (by decide)).trans h27, (keepT_at (by decide)).trans rfl, (by first | rfl | trivial)⟩
    rw [if_pos c8] at H1
    repeat apply TW.seq
    refine TW.cond (b := true) ?_ ?_
    · simp only [eT_tmp, eT_const, kT_bool, h49, decide_eq_true c2, c5, decide_eq_true c6, decide_eq_true c8, Bool.not_true, Bool.not_false]
    simp only [cond_true, cond_false]
    repeat apply TW.seq
    apply TW.region (envs_ok ax) [] []
    · kernel_rfl
    · simp (disch := first | omega | decide | (simp only [lzA, Nat.reduceAdd, Nat.reduceLT]; done) | fail) only [b0, b1, b2, b3, b4, b5, b6, b7, b8, Nat.reduceAdd, Nat.reduceEqDiff, Nat.reduceMul, reduceIte, reduceCtorEq, decide_eq_true c2, c5, decide_eq_true c6, decide_eq_true c8, encA]
      with_reducible rfl
    · exact trivial
    simp only [onT, onTB]
    refine TW.gen (bs := [.cells true 3 [lNodes n.nodes, lLinks n.links, lEdges n.edges], .cells true 2 [ints f_.links, .int .i64 f_.node]]) (fun h => h 12 = .bool false) ?_ ?_ ?_
    · rfl
    · exact rfl
    clear h2 h3 h5 h6 h7 h13 h14 h26 h27 h28 h49 h
    rintro h h12
    apply TW.ret
    cases H1
    rw [Sum.elim_inl] at H
    cases H
    refine ⟨.inr rfl, ?_⟩
    first | (simp only [Try.results13, resT, h12]; done) | (simp only [Try.results13, resT, h12]; rfl)
  clear h2 h3 h5 h6 h7 h13 h14 h26 h27 h28 h
  rintro h bs ⟨s_, rfl, h2, h3, h5, h6, h7, h13, h14, rfl⟩
  rw [Sum.elim_inr] at H
  simp only [onT, onTB]
  by_cases c9 : rCheck.2 = true
  case neg =>
    rw [if_neg c9] at H
    have c9f := (Bool.not_eq_true _).mp c9
    repeat apply TW.seq
    apply TW.region (envs_ok ax) [] []
    · kernel_rfl
    · simp (maxSteps := 900000) (disch := first | omega | decide | (simp only [lzA, Nat.reduceAdd, Nat.reduceLT]; done) | fail) only [b0, b1, b2, b3, b4, b5, b6, b7, b8, Nat.reduceAdd, Nat.reduceEqDiff, Nat.reduceMul, reduceIte, reduceCtorEq, h14, h5, h2, h3, h6, h7, h13, c9f, encA]
      with_reducible rfl
    · exact trivial
    simp only [onT, onTB]
    refine TW.gen (bs := [.cells true 3 [lNodes n.nodes, lLinks n.links, lEdges n.edges], .cells true 2 [ints f_.links, .int .i64 f_.node]]) (fun h => h 12 = .bool false) ?_ ?_ ?_
    · rfl
    · exact rfl
    clear h2 h3 h5 h6 h7 h13 h14 h
    rintro h h12
    apply TW.ret
    cases H
    refine ⟨.inr rfl, ?_⟩
    first | (simp only [Try.results13, resT, h12]; done) | (simp only [Try.results13, resT, h12]; rfl)
  rw [if_pos c9] at H
  obtain ⟨rContains, e10, H⟩ := bsome H
  by_cases c11 : rContains = true
  case neg =>
    rw [if_neg c11] at H
    have c11f := (Bool.not_eq_true _).mp c11
    repeat apply TW.seq
    apply TW.region (envs_ok ax) [] [(.bool rContains, stL [.cells true 3 [lNodes n.nodes, lLinks n.links, lEdges n.edges], .cells true 2 [ints f_.links, .int .i64 f_.node]])]
    · kernel_rfl
    · simp (maxSteps := 900000) (disch := first | omega | decide | (simp only [lzA, Nat.reduceAdd, Nat.reduceLT]; done) | fail) only [b0, b1, b2, b3, b4, b5, b6, b7, b8, Nat.reduceAdd, Nat.reduceEqDiff, Nat.reduceMul, reduceIte, reduceCtorEq, h14, h5, h2, h3, h6, h7, h13, c9, c11f, encA]
      with_reducible rfl
    · exact ⟨(by have q := Call0.call ((sslices_Contains_ok ax hx k cut from_ rContains e10 ).call (stL [.cells true 3 [lNodes n.nodes, lLinks n.links, lEdges n.edges], .cells true 2 [ints f_.links, .int .i64 f_.node]])); (try simp only [c9, c11f] at q); exact q), trivial⟩
    simp only [onT, onTB]
    refine TW.gen (bs := [.cells true 3 [lNodes n.nodes, lLinks n.links, lEdges n.edges], .cells true 2 [ints f_.links, .int .i64 f_.node]]) (fun h => h 12 = .bool false) ?_ ?_ ?_
    · rfl
    · exact rfl
    clear h2 h3 h5 h6 h7 h13 h14 h
    rintro h h12
    apply TW.ret
    cases H
    refine ⟨.inr rfl, ?_⟩
    first | (simp only [Try.results13, resT, h12]; done) | (simp only [Try.results13, resT, h12]; rfl)
  rw [if_pos c11] at H
  obtain ⟨rContains2, e12, H⟩ := bsome H
  by_cases c13 : rContains2 = true
  case neg =>
    rw [if_neg c13] at H
    have c13f := (Bool.not_eq_true _).mp c13
    obtain ⟨rCapacity, e14, H⟩ := bsome H
    repeat apply TW.seq
    apply TW.region (envs_ok ax) [] [(.bool rContains, stL [.cells true 3 [lNodes n.nodes, lLinks n.links, lEdges n.edges], .cells true 2 [ints f_.links, .int .i64 f_.node]]), (.bool rContains2, stL [.cells true 3 [lNodes n.nodes, lLinks n.links, lEdges n.edges], .cells true 2 [ints f_.links, .int .i64 f_.node]]), (.int .i64 rCapacity, stL [.cells true 3 [lNodes n.nodes, lLinks n.links, lEdges n.edges], .cells true 2 [ints f_.links, .int .i64 f_.node]])]
    · kernel_rfl
    · simp (maxSteps := 900000) (disch := first | omega | decide | (simp only [lzA, Nat.reduceAdd, Nat.reduceLT]; done) | fail) only [b0, b1, b2, b3, b4, b5, b6, b7, b8, Nat.reduceAdd, Nat.reduceEqDiff, Nat.reduceMul, reduceIte, reduceCtorEq, h14, h5, h2, h3, h6, h7, h13, c9, c11, c13f, ti26 ax, ti29 ax, encA]
      with_reducible rfl
    · exact ⟨(by have q := Call0.call ((sslices_Contains_ok ax hx k cut from_ rContains e10 ).call (stL [.cells true 3 [lNodes n.nodes, lLinks n.links, lEdges n.edges], .cells true 2 [ints f_.links, .int .i64 f_.node]])); (try simp only [c9, c11, c13f] at q); exact q), (by have q := Call0.call ((sslices_Contains_ok ax hx k cut to_ rContains2 e12 ).call (stL [.cells true 3 [lNodes n.nodes, lLinks n.links, lEdges n.edges], .cells true 2 [ints f_.links, .int .i64 f_.node]])); (try simp only [c9, c11, c13f] at q); exact q), (by have q := Call0.call ((sflow_Capacity_ok ax hx k n f_ cut rCapacity e14 ).call (stL [.cells true 3 [lNodes n.nodes, lLinks n.links, lEdges n.edges], .cells true 2 [ints f_.links, .int .i64 f_.node]])); (try simp only [c9, c11, c13f] at q); exact q), trivial⟩
    simp only [onT, onTB]
    refine TW.gen (bs := [.cells true 3 [lNodes n.nodes, lLinks n.links, lEdges n.edges], .cells true 2 [ints f_.links, .int .i64 f_.node]]) (fun h => h 12 = .bool (decide (rCapacity = rCheck.1))) ?_ ?_ ?_
    · rfl
    · exact rfl
    clear h2 h3 h5 h6 h7 h13 h14 h
    rintro h h12
    apply TW.ret
    cases H
    refine ⟨.inr rfl, ?_⟩
    first | (simp only [Try.results13, resT, h12]; done) | (simp only [Try.results13, resT, h12]; rfl)
  rw [if_pos c13] at H
  repeat apply TW.seq
  apply TW.region (envs_ok ax) [] [(.bool rContains, stL [.cells true 3 [lNodes n.nodes, lLinks n.links, lEdges n.edges], .cells true 2 [ints f_.links, .int .i64 f_.node]]), (.bool rContains2, stL [.cells true 3 [lNodes n.nodes, lLinks n.links, lEdges n.edges], .cells true 2 [ints f_.links, .int .i64 f_.node]])]
  · kernel_rfl
  · simp (maxSteps := 900000) (disch := first | omega | decide | (simp only [lzA, Nat.reduceAdd, Nat.reduceLT]; done) | fail) only [b0, b1, b2, b3, b4, b5, b6, b7, b8, Nat.reduceAdd, Nat.reduceEqDiff, Nat.reduceMul, reduceIte, reduceCtorEq, h14, h5, h2, h3, h6, h7, h13, c9, c11, c13, encA]
    with_reducible rfl
  · exact ⟨(by have q := Call0.call ((sslices_Contains_ok ax hx k cut from_ rContains e10 ).call (stL [.cells true 3 [lNodes n.nodes, lLinks n.links, lEdges n.edges], .cells true 2 [ints f_.links, .int .i64 f_.node]])); (try simp only [c9, c11, c13] at q); exact q), (by have q := Call0.call ((sslices_Contains_ok ax hx k cut to_ rContains2 e12 ).call (stL [.cells true 3 [lNodes n.nodes, lLinks n.links, lEdges n.edges], .cells true 2 [ints f_.links, .int .i64 f_.node]])); (try simp only [c9, c11, c13] at q); exact q), trivial⟩
  simp only [onT, onTB]
  refine TW.gen (bs := [.cells true 3 [lNodes n.nodes, lLinks n.links, lEdges n.edges], .cells true 2 [ints f_.links, .int .i64 f_.node]]) (fun h => h 12 = .bool false) ?_ ?_ ?_
  · rfl
  · exact rfl
  clear h2 h3 h5 h6 h7 h13 h14 h
  rintro h h12
  apply TW.ret
  cases H
  refine ⟨.inr rfl, ?_⟩
  first | (simp only [Try.results13, resT, h12]; done) | (simp only [Try.results13, resT, h12]; rfl)
def sflow_Cheapest_L0 (k : Nat) (n : Net) (f_ : Failure) (prices : List Int) (flow : List Int) (potentials : List Int) : Nat → Int → Option (Bool ⊕ Unit)
  | 0, _ => none
  | m + 1, i => (if i < (n.links.length : Int) then (if (0 : Int) ≤ i ∧ i < (n.links.length : Int) then ((sgraph_Up k n f_ i).bind fun rUp => (if rUp = true then (if (0 : Int) ≤ i ∧ i < (prices.length : Int) then (if (0 : Int) ≤ ((gx n.links i).frm) ∧ ((gx n.links i).frm) < (potentials.length : Int) then (if (0 : Int) ≤ ((gx n.links i).to) ∧ ((gx n.links i).to) < (potentials.length : Int) then (if (IntKind.i64.wrap ((IntKind.i64.wrap ((gx prices i) + (gx potentials ((gx n.links i).frm)))) - (gx potentials ((gx n.links i).to)))) < 0 then (if (0 : Int) ≤ i ∧ i < (flow.length : Int) then (if (gx flow i) < ((gx n.links i).cap) then some (.inl false) else (if 0 < (IntKind.i64.wrap ((IntKind.i64.wrap ((gx prices i) + (gx potentials ((gx n.links i).frm)))) - (gx potentials ((gx n.links i).to)))) then (if 0 < (gx flow i) then some (.inl false) else sflow_Cheapest_L0 k n f_ prices flow potentials m (IntKind.i64.wrap (i + 1))) else sflow_Cheapest_L0 k n f_ prices flow potentials m (IntKind.i64.wrap (i + 1)))) else none) else (if 0 < (IntKind.i64.wrap ((IntKind.i64.wrap ((gx prices i) + (gx potentials ((gx n.links i).frm)))) - (gx potentials ((gx n.links i).to)))) then (if (0 : Int) ≤ i ∧ i < (flow.length : Int) then (if 0 < (gx flow i) then some (.inl false) else sflow_Cheapest_L0 k n f_ prices flow potentials m (IntKind.i64.wrap (i + 1))) else none) else sflow_Cheapest_L0 k n f_ prices flow potentials m (IntKind.i64.wrap (i + 1)))) else none) else none) else none) else sflow_Cheapest_L0 k n f_ prices flow potentials m (IntKind.i64.wrap (i + 1)))) else none) else some (.inr ()))
def sflow_Cheapest (k : Nat) (n : Net) (f_ : Failure) (prices : List Int) (from_ : Int) (to_ : Int) (flow : List Int) (potentials : List Int) : Option Bool := ((sflow_Check k n f_ from_ to_ flow).bind fun rCheck => (((if rCheck.2 = true then ((sflow_bounded k prices (n.links.length : Int) 1048576).bind fun rbounded => (if rbounded = true then ((sflow_bounded k potentials (n.nodes.length : Int) 4294967296).bind fun rbounded2 => some (!rbounded2)) else some true)) else some true) : Option Bool).bind fun s_ => (if s_ = true then some false else ((sflow_Cheapest_L0 k n f_ prices flow potentials k 0 : Option (Bool ⊕ Unit)).bind fun o => Sum.elim (fun r => some r) (fun s_2 => some true) o))))
set_option maxHeartbeats 8000000 in
theorem sflow_Cheapest_ok (ax : Axs) (hx : Plain ax) (k : Nat) (n : Net) (f_ : Failure) (prices : List Int) (from_ : Int) (to_ : Int) (flow : List Int) (potentials : List Int) (v : Bool) (H : sflow_Cheapest k n f_ prices from_ to_ flow potentials = some v) : Pure Try.prog (EE ax) [] 15 [eNet n, eFail f_, ints prices, .int .i64 from_, .int .i64 to_, ints flow, ints potentials] (.bool v) := by
  rw [sflow_Cheapest] at H
  refine Pure.enter (fn := Try.f15) 99 (hx.no _ (by decide)) (fn15 ax) rfl Try.ntmps15 (by decide) (by simp) (by simp only [ids2B, ids2C, idsA, idsB, Bool.and_self]) (by first | rfl | simp only [ids2B, ids2C, idsA, idsB, Bool.and_self] | simp only [tupT, ids2B, ids2C, idsA, idsB, Bool.and_self]) ?_
  simp only [argT_cons, argT_nil, Nat.reduceAdd]
  refine TW.gen (bs := []) (fun h => h 0 = eNet n ∧ h 1 = eFail f_ ∧ h 2 = ints prices ∧ h 3 = .int .i64 from_ ∧ h 4 = .int .i64 to_ ∧ h 5 = ints flow ∧ h 6 = ints potentials) rfl ?_ ?_
  · exact ⟨rfl, rfl, rfl, rfl, rfl, rfl, rfl⟩
  rintro h ⟨h0, h1, h2, h3, h4, h5, h6⟩
  repeat apply TW.seq
  apply TW.region (envs_ok ax) [] []
  · kernel_rfl
  · simp (disch := first | omega | decide | (simp only [lzA, Nat.reduceAdd, Nat.reduceLT]; done) | fail) only [b0, b1, b2, b3, b4, b5, b6, b7, b8, Nat.reduceAdd, Nat.reduceEqDiff, Nat.reduceMul, reduceIte, reduceCtorEq, h0, h1, encA]
    with_reducible rfl
  · exact trivial
  simp only [onT, onTB]
  refine TW.gen (bs := [.cells true 3 [lNodes n.nodes, lLinks n.links, lEdges n.edges], .cells true 2 [ints f_.links, .int .i64 f_.node]]) (fun h => h 2 = ints prices ∧ h 3 = .int .i64 from_ ∧ h 4 = .int .i64 to_ ∧ h 5 = ints flow ∧ h 6 = ints potentials ∧ h 7 = .ptr 0 0 3 ∧ h 8 = .ptr 1 0 2) ?_ ?_ ?_
  · rfl
  · exact ⟨h2, h3, h4, h5, h6, rfl, rfl⟩
  clear h0 h1 h2 h3 h4 h5 h6 h
  rintro h ⟨h2, h3, h4, h5, h6, h7, h8⟩
  obtain ⟨rCheck, e1, H⟩ := bsome H
  repeat apply TW.seq
  apply TW.region (envs_ok ax) [] [(.tup [.int .i64 rCheck.1, .bool rCheck.2], stL [.cells true 3 [lNodes n.nodes, lLinks n.links, lEdges n.edges], .cells true 2 [ints f_.links, .int .i64 f_.node]])]
  · kernel_rfl
  · simp (disch := first | omega | decide | (simp only [lzA, Nat.reduceAdd, Nat.reduceLT]; done) | fail) only [b0, b1, b2, b3, b4, b5, b6, b7, b8, Nat.reduceAdd, Nat.reduceEqDiff, Nat.reduceMul, reduceIte, reduceCtorEq, h7, h8, h3, h4, h5, ti26 ax, ti29 ax, encA]
    with_reducible rfl
  · exact ⟨(by have q := Call0.call ((sflow_Check_ok ax hx k n f_ from_ to_ flow rCheck e1 ).call (stL [.cells true 3 [lNodes n.nodes, lLinks n.links, lEdges n.edges], .cells true 2 [ints f_.links, .int .i64 f_.node]])); exact q), trivial⟩
  simp only [onT, onTB]
  refine TW.gen (bs := [.cells true 3 [lNodes n.nodes, lLinks n.links, lEdges n.edges], .cells true 2 [ints f_.links, .int .i64 f_.node]]) (fun h => h 2 = ints prices ∧ h 5 = ints flow ∧ h 6 = ints potentials ∧ h 7 = .ptr 0 0 3 ∧ h 8 = .ptr 1 0 2 ∧ h 16 = .bool rCheck.2) ?_ ?_ ?_
  · rfl
  · exact ⟨h2, h5, h6, h7, h8, rfl⟩
  clear h2 h3 h4 h5 h6 h7 h8 h
  rintro h ⟨h2, h5, h6, h7, h8, h16⟩
  obtain ⟨s_, H1, H⟩ := bsome H
  repeat apply TW.seq
  refine TW.cutN [2, 5, 6, 7, 8, 46] 2 (by simp only [lzA] <;> omega) (fun h bs => h 2 = ints prices ∧ h 5 = ints flow ∧ h 6 = ints potentials ∧ h 7 = .ptr 0 0 3 ∧ h 8 = .ptr 1 0 2 ∧ h 46 = .bool s_ ∧ bs = [.cells true 3 [lNodes n.nodes, lLinks n.links, lEdges n.edges], .cells true 2 [ints f_.links, .int .i64 f_.node]]) ?_ ?_
  · skip
    by_cases c2 : rCheck.2 = true
    case neg =>
      rw [if_neg c2] at H1
      have c2f := (Bool.not_eq_true _).mp c2
      repeat apply TW.seq
      apply TW.region (envs_ok ax) [] []
      · kernel_rfl
      · simp (maxSteps := 900000) (disch := first | omega | decide | (simp only [lzA, Nat.reduceAdd, Nat.reduceLT]; done) | fail) only [b0, b1, b2, b3, b4, b5, b6, b7, b8, Nat.reduceAdd, Nat.reduceEqDiff, Nat.reduceMul, reduceIte, reduceCtorEq, h16, h2, h7, h6, c2f, encA]
        with_reducible rfl
      · exact trivial
      simp only [onT, onTB]

      cases H1
      refine ⟨_, rfl, by simp only [lzA] <;> omega, ?_, ?_, ?_⟩
      · simp only [ids2A, ids2B, ids2C, reduceIte, Nat.reduceEqDiff, Nat.reduceAdd, Nat.reduceLT, Nat.reduceLeDiff, idsA, idsB, h2, h5, h6, h7, h8, h16]
      · simp only [ids2A, ids2B, ids2C, reduceIte, Nat.reduceEqDiff, Nat.reduceAdd, Nat.reduceLT, Nat.reduceLeDiff, idsA, idsB, h2, h5, h6, h7, h8, h16]
      · exact ⟨(keepT_at (by decide)).trans h2, (keepT_at (by decide)).trans h5, (keepT_at (by decide)).trans h6, (keepT_at (by decide)).trans h7, (keepT_at (by decide)).trans h8, (keepT_at (by decide)).trans rfl, (by first | rfl | trivial)⟩
    rw [if_pos c2] at H1
    obtain ⟨rbounded, e3, H1⟩ := bsome H1
    by_cases c4 : rbounded = true
    case neg =>
      rw [if_neg c4] at H1
      have c4f := (Bool.not_eq_true _).mp c4
      repeat apply TW.seq
      apply TW.region (envs_ok ax) [] [(.bool rbounded, stL [.cells true 3 [lNodes n.nodes, lLinks n.links, lEdges n.edges], .cells true 2 [ints f_.links, .int .i64 f_.node]])]
      · kernel_rfl
      · simp (maxSteps := 900000) (disch := first | omega | decide | (simp only [lzA, Nat.reduceAdd, Nat.reduceLT]; done) | fail) only [b0, b1, b2, b3, b4, b5, b6, b7, b8, Nat.reduceAdd, Nat.reduceEqDiff, Nat.reduceMul, reduceIte, reduceCtorEq, h16, h2, h7, h6, c2, c4f, fa26_1, ti23 ax, encA]
        with_reducible rfl
      · exact ⟨(by have q := Call0.call ((sflow_bounded_ok ax hx k prices (n.links.length : Int) 1048576 rbounded e3 ).call (stL [.cells true 3 [lNodes n.nodes, lLinks n.links, lEdges n.edges], .cells true 2 [ints f_.links, .int .i64 f_.node]])); (try simp only [c2, c4f] at q); exact q), trivial⟩
      simp only [onT, onTB]

      cases H1
      refine ⟨_, rfl, by simp only [lzA] <;> omega, ?_, ?_, ?_⟩
      · simp only [ids2A, ids2B, ids2C, reduceIte, Nat.reduceEqDiff, Nat.reduceAdd, Nat.reduceLT, Nat.reduceLeDiff, idsA, idsB, h2, h5, h6, h7, h8, h16]
      · simp only [ids2A, ids2B, ids2C, reduceIte, Nat.reduceEqDiff, Nat.reduceAdd, Nat.reduceLT, Nat.reduceLeDiff, idsA, idsB, h2, h5, h6, h7, h8, h16]
      · exact ⟨(keepT_at (by decide)).trans h2, (keepT_at (by decide)).trans h5, (keepT_at (by decide)).trans h6, (keepT_at (by decide)).trans h7, (keepT_at (by decide)).trans h8, (keepT_at (by decide)).trans rfl, (by first | rfl | trivial)⟩
    rw [if_pos c4] at H1
    obtain ⟨rbounded2, e5, H1⟩ := bsome H1
    repeat apply TW.seq
    apply TW.region (envs_ok ax) [] [(.bool rbounded, stL [.cells true 3 [lNodes n.nodes, lLinks n.links, lEdges n.edges], .cells true 2 [ints f_.links, .int .i64 f_.node]]), (.bool rbounded2, stL [.cells true 3 [lNodes n.nodes, lLinks n.links, lEdges n.edges], .cells true 2 [ints f_.links, .int .i64 f_.node]])]
    · kernel_rfl
    · simp (maxSteps := 900000) (disch := first | omega | decide | (simp only [lzA, Nat.reduceAdd, Nat.reduceLT]; done) | fail) only [b0, b1, b2, b3, b4, b5, b6, b7, b8, Nat.reduceAdd, Nat.reduceEqDiff, Nat.reduceMul, reduceIte, reduceCtorEq, h16, h2, h7, h6, c2, c4, fa26_0, fa26_1, ti22 ax, ti23 ax, encA]
      with_reducible rfl
    · exact ⟨(by have q := Call0.call ((sflow_bounded_ok ax hx k prices (n.links.length : Int) 1048576 rbounded e3 ).call (stL [.cells true 3 [lNodes n.nodes, lLinks n.links, lEdges n.edges], .cells true 2 [ints f_.links, .int .i64 f_.node]])); (try simp only [c2, c4] at q); exact q), (by have q := Call0.call ((sflow_bounded_ok ax hx k potentials (n.nodes.length : Int) 4294967296 rbounded2 e5 ).call (stL [.cells true 3 [lNodes n.nodes, lLinks n.links, lEdges n.edges], .cells true 2 [ints f_.links, .int .i64 f_.node]])); (try simp only [c2, c4] at q); exact q), trivial⟩
    simp only [onT, onTB]

    cases H1
    refine ⟨_, rfl, by simp only [lzA] <;> omega, ?_, ?_, ?_⟩
    · simp only [ids2A, ids2B, ids2C, reduceIte, Nat.reduceEqDiff, Nat.reduceAdd, Nat.reduceLT, Nat.reduceLeDiff, idsA, idsB, h2, h5, h6, h7, h8, h16]
    · simp only [ids2A, ids2B, ids2C, reduceIte, Nat.reduceEqDiff, Nat.reduceAdd, Nat.reduceLT, Nat.reduceLeDiff, idsA, idsB, h2, h5, h6, h7, h8, h16]
    · exact ⟨(keepT_at (by decide)).trans h2, (keepT_at (by decide)).trans h5, (keepT_at (by decide)).trans h6, (keepT_at (by decide)).trans h7, (keepT_at (by decide)).trans h8, (keepT_at (by decide)).trans rfl, (by first | rfl | trivial)⟩
  clear h2 h5 h6 h7 h8 h16 h
  rintro h bs ⟨h2, h5, h6, h7, h8, h46, rfl⟩
  simp only [onT, onTB]
  by_cases c6 : s_ = true
  case neg =>
    rw [if_neg c6] at H
    have c6f := (Bool.not_eq_true _).mp c6
    repeat apply TW.seq
    refine TW.cond (b := false) ?_ ?_
    · simp only [eT_tmp, eT_const, kT_bool, h46, c6f, Bool.not_true, Bool.not_false]
    simp only [cond_true, cond_false]
    repeat apply TW.seq
    apply TW.skip
    simp only [onT, onTB]
    repeat apply TW.seq
    apply TW.region (envs_ok ax) [] []
    · kernel_rfl
    · simp (disch := first | omega | decide | (simp only [lzA, Nat.reduceAdd, Nat.reduceLT]; done) | fail) only [b0, b1, b2, b3, b4, b5, b6, b7, b8, Nat.reduceAdd, Nat.reduceEqDiff, Nat.reduceMul, reduceIte, reduceCtorEq, h7, c6f, fa26_1, ti23 ax, encA]
      with_reducible rfl
    · exact trivial
    simp only [onT, onTB]
    refine TW.gen (bs := [.cells true 3 [lNodes n.nodes, lLinks n.links, lEdges n.edges], .cells true 2 [ints f_.links, .int .i64 f_.node]]) (fun h => h 2 = ints prices ∧ h 5 = ints flow ∧ h 6 = ints potentials ∧ h 7 = .ptr 0 0 3 ∧ h 8 = .ptr 1 0 2 ∧ h 48 = lLinks n.links ∧ h 49 = .int .i64 (n.links.length : Int) ∧ h 50 = .int .i64 0) ?_ ?_ ?_
    · rfl
    · exact ⟨h2, h5, h6, h7, h8, rfl, rfl, rfl⟩
    clear h2 h5 h6 h7 h8 h46 h
    rintro h ⟨h2, h5, h6, h7, h8, h48, h49, h50⟩
    obtain ⟨o, H1, H⟩ := bsome H
    repeat apply TW.seq
    refine TW.cutN [] 2 (by simp only [lzA] <;> omega) (fun h bs => ∃ s_2 : Unit, o = .inr s_2 ∧ bs = [.cells true 3 [lNodes n.nodes, lLinks n.links, lEdges n.edges], .cells true 2 [ints f_.links, .int .i64 f_.node]]) ?_ ?_
    · skip
      repeat apply TW.seq
      apply TW.block
      repeat apply TW.seq
      refine TW.loopT [2, 5, 6, 7, 8, 48, 49, 50] (fun m h bs => ∃ (i : Int), sflow_Cheapest_L0 k n f_ prices flow potentials m i = some o ∧ h 2 = ints prices ∧ h 5 = ints flow ∧ h 6 = ints potentials ∧ h 7 = .ptr 0 0 3 ∧ h 8 = .ptr 1 0 2 ∧ h 48 = lLinks n.links ∧ h 49 = .int .i64 (n.links.length : Int) ∧ h 50 = .int .i64 i ∧ bs = [.cells true 3 [lNodes n.nodes, lLinks n.links, lEdges n.edges], .cells true 2 [ints f_.links, .int .i64 f_.node]]) ?_ k _ _ ?_
      rotate_left
      · exact ⟨0, H1, (by first | exact h2 | (rw [h2]; rfl)), (by first | exact h5 | (rw [h5]; rfl)), (by first | exact h6 | (rw [h6]; rfl)), (by first | exact h7 | (rw [h7]; rfl)), (by first | exact h8 | (rw [h8]; rfl)), (by first | exact h48 | (rw [h48]; rfl)), (by first | exact h49 | (rw [h49]; rfl)), (by first | exact h50 | (rw [h50]; rfl)), rfl⟩
      clear h2 h5 h6 h7 h8 h48 h49 h50 h
      clear H1
      rintro m h bs ⟨i, H1, h2, h5, h6, h7, h8, h48, h49, h50, rfl⟩
      rcases m with _ | m
      · rw [sflow_Cheapest_L0] at H1; cases H1
      rw [sflow_Cheapest_L0] at H1
      repeat apply TW.seq
      apply TW.region (envs_ok ax) [] []
      · kernel_rfl
      · simp (disch := first | omega | decide | (simp only [lzA, Nat.reduceAdd, Nat.reduceLT]; done) | fail) only [b0, b1, b2, b3, b4, b5, b6, b7, b8, Nat.reduceAdd, Nat.reduceEqDiff, Nat.reduceMul, reduceIte, reduceCtorEq, h50, h49, c6f, encA]
        with_reducible rfl
      · exact trivial
      simp only [onT, onTB]
      refine TW.gen (bs := [.cells true 3 [lNodes n.nodes, lLinks n.links, lEdges n.edges], .cells true 2 [ints f_.links, .int .i64 f_.node]]) (fun h => h 2 = ints prices ∧ h 5 = ints flow ∧ h 6 = ints potentials ∧ h 7 = .ptr 0 0 3 ∧ h 8 = .ptr 1 0 2 ∧ h 48 = lLinks n.links ∧ h 49 = .int .i64 (n.links.length : Int) ∧ h 50 = .int .i64 i ∧ h 51 = .bool (decide (i < (n.links.length : Int)))) ?_ ?_ ?_
      · rfl
      · exact ⟨h2, h5, h6, h7, h8, h48, h49, h50, rfl⟩
      clear h2 h5 h6 h7 h8 h48 h49 h50 h
      rintro h ⟨h2, h5, h6, h7, h8, h48, h49, h50, h51⟩
      by_cases c7 : i < (n.links.length : Int)
      case neg =>
        rw [if_neg c7] at H1
        repeat apply TW.seq
        refine TW.cond (b := false) ?_ ?_
        · simp only [eT_tmp, eT_const, kT_bool, h51, c6f, decide_eq_false c7, Bool.not_true, Bool.not_false]
        simp only [cond_true, cond_false]
        apply TW.exit
        simp (disch := decide) only [onT, onTB, Nat.beq_refl, beq_no, cond_true, cond_false]
        cases H1
        refine ⟨_, rfl, by simp only [lzA] <;> omega, ?_, ?_, ?_⟩
        · simp only [ids2A, ids2B, ids2C, reduceIte, Nat.reduceEqDiff, Nat.reduceAdd, Nat.reduceLT, Nat.reduceLeDiff, idsA, idsB, h2, h5, h6, h7, h8, h48, h49, h50, h51]
        · simp only [ids2A, ids2B, ids2C, reduceIte, Nat.reduceEqDiff, Nat.reduceAdd, Nat.reduceLT, Nat.reduceLeDiff, idsA, idsB, h2, h5, h6, h7, h8, h48, h49, h50, h51]
        · exact ⟨_, rfl, (by first | rfl | trivial)⟩
      rw [if_pos c7] at H1
      repeat apply TW.seq
      refine TW.cond (b := true) ?_ ?_
      · simp only [eT_tmp, eT_const, kT_bool, h51, c6f, decide_eq_true c7, Bool.not_true, Bool.not_false]
      simp only [cond_true, cond_false]
      repeat apply TW.seq
      apply TW.skip
      simp only [onT, onTB]
      repeat apply TW.seq
      apply TW.block
      by_cases g8 : (0 : Int) ≤ i ∧ i < (n.links.length : Int)
      case neg => rw [if_neg g8] at H1; cases H1
      rw [if_pos g8] at H1
      repeat apply TW.seq
      apply TW.region (envs_ok ax) [] []
      · kernel_rfl
      · simp (disch := first | omega | decide | (simp only [lzA, Nat.reduceAdd, Nat.reduceLT]; done) | fail) only [b0, b1, b2, b3, b4, b5, b6, b7, b8, Nat.reduceAdd, Nat.reduceEqDiff, Nat.reduceMul, reduceIte, reduceCtorEq, h50, h48, c6f, decide_eq_true c7, gx_some g8, ti23 ax, ti51 ax, encA]
        with_reducible rfl
      · exact trivial
      simp only [onT, onTB]
      refine TW.gen (bs := [.cells true 3 [lNodes n.nodes, lLinks n.links, lEdges n.edges], .cells true 2 [ints f_.links, .int .i64 f_.node], .cells true 3 [.int .i64 ((gx n.links i).frm), .int .i64 ((gx n.links i).to), .int .i64 ((gx n.links i).cap)]]) (fun h => h 2 = ints prices ∧ h 5 = ints flow ∧ h 6 = ints potentials ∧ h 7 = .ptr 0 0 3 ∧ h 8 = .ptr 1 0 2 ∧ h 17 = .int .i64 i ∧ h 18 = .ptr 2 0 3 ∧ h 48 = lLinks n.links ∧ h 49 = .int .i64 (n.links.length : Int) ∧ h 50 = .int .i64 i) ?_ ?_ ?_
      · rfl
      · exact ⟨h2, h5, h6, h7, h8, rfl, rfl, h48, h49, h50⟩
      clear h2 h5 h6 h7 h8 h48 h49 h50 h51 h
      rintro h ⟨h2, h5, h6, h7, h8, h17, h18, h48, h49, h50⟩
      obtain ⟨rUp, e9, H1⟩ := bsome H1
      repeat apply TW.seq
      apply TW.region (envs_ok ax) [] [(.bool rUp, stL [.cells true 3 [lNodes n.nodes, lLinks n.links, lEdges n.edges], .cells true 2 [ints f_.links, .int .i64 f_.node], .cells true 3 [.int .i64 ((gx n.links i).frm), .int .i64 ((gx n.links i).to), .int .i64 ((gx n.links i).cap)]])]
      · kernel_rfl
      · simp (disch := first | omega | decide | (simp only [lzA, Nat.reduceAdd, Nat.reduceLT]; done) | fail) only [b0, b1, b2, b3, b4, b5, b6, b7, b8, Nat.reduceAdd, Nat.reduceEqDiff, Nat.reduceMul, reduceIte, reduceCtorEq, h7, h8, h17, c6f, decide_eq_true c7, ti26 ax, ti29 ax, encA]
        with_reducible rfl
      · exact ⟨(by have q := Call0.call ((sgraph_Up_ok ax hx k n f_ i rUp e9 ).call (stL [.cells true 3 [lNodes n.nodes, lLinks n.links, lEdges n.edges], .cells true 2 [ints f_.links, .int .i64 f_.node], .cells true 3 [.int .i64 ((gx n.links i).frm), .int .i64 ((gx n.links i).to), .int .i64 ((gx n.links i).cap)]])); (try simp only [c6f] at q); exact q), trivial⟩
      simp only [onT, onTB]
      refine TW.gen (bs := [.cells true 3 [lNodes n.nodes, lLinks n.links, lEdges n.edges], .cells true 2 [ints f_.links, .int .i64 f_.node], .cells true 3 [.int .i64 ((gx n.links i).frm), .int .i64 ((gx n.links i).to), .int .i64 ((gx n.links i).cap)]]) (fun h => h 2 = ints prices ∧ h 5 = ints flow ∧ h 6 = ints potentials ∧ h 7 = .ptr 0 0 3 ∧ h 8 = .ptr 1 0 2 ∧ h 17 = .int .i64 i ∧ h 18 = .ptr 2 0 3 ∧ h 48 = lLinks n.links ∧ h 49 = .int .i64 (n.links.length : Int) ∧ h 50 = .int .i64 i ∧ h 59 = .bool (!rUp)) ?_ ?_ ?_
      · rfl
      · exact ⟨h2, h5, h6, h7, h8, h17, h18, h48, h49, h50, rfl⟩
      clear h2 h5 h6 h7 h8 h17 h18 h48 h49 h50 h
      rintro h ⟨h2, h5, h6, h7, h8, h17, h18, h48, h49, h50, h59⟩
      by_cases c10 : rUp = true
      case neg =>
        rw [if_neg c10] at H1
        have c10f := (Bool.not_eq_true _).mp c10
        repeat apply TW.seq
        refine TW.cond (b := true) ?_ ?_
        · simp only [eT_tmp, eT_const, kT_bool, h59, c6f, decide_eq_true c7, c10f, Bool.not_true, Bool.not_false]
        simp only [cond_true, cond_false]
        apply TW.exit
        simp (disch := decide) only [onT, onTB, Nat.beq_refl, beq_no, cond_true, cond_false]
        repeat apply TW.seq
        apply TW.region (envs_ok ax) [] []
        · kernel_rfl
        · simp (disch := first | omega | decide | (simp only [lzA, Nat.reduceAdd, Nat.reduceLT]; done) | fail) only [b0, b1, b2, b3, b4, b5, b6, b7, b8, Nat.reduceAdd, Nat.reduceEqDiff, Nat.reduceMul, reduceIte, reduceCtorEq, h50, c6f, decide_eq_true c7, c10f, encA]
          with_reducible rfl
        · exact trivial
        simp only [onT, onTB]

        refine ⟨m, by omega, _, rfl, by simp only [lzA] <;> omega, ?_, ?_, ?_⟩
        · simp only [ids2A, ids2B, ids2C, reduceIte, Nat.reduceEqDiff, Nat.reduceAdd, Nat.reduceLT, Nat.reduceLeDiff, idsA, idsB, h2, h5, h6, h7, h8, h17, h18, h48, h49, h50, h59]
        · simp only [ids2A, ids2B, ids2C, reduceIte, Nat.reduceEqDiff, Nat.reduceAdd, Nat.reduceLT, Nat.reduceLeDiff, idsA, idsB, h2, h5, h6, h7, h8, h17, h18, h48, h49, h50, h59]
        · exact ⟨(IntKind.i64.wrap (i + 1)), H1, (keepT_at (by decide)).trans h2, (keepT_at (by decide)).trans h5, (keepT_at (by decide)).trans h6, (keepT_at (by decide)).trans h7, (keepT_at (by decide)).trans h8, (keepT_at (by decide)).trans h48, (keepT_at (by decide)).trans h49, (keepT_at (by decide)).trans rfl, (by first | rfl | trivial)⟩
      rw [if_pos c10] at H1
      repeat apply TW.seq
      refine TW.cond (b := false) ?_ ?_
      · simp only [eT_tmp, eT_const, kT_bool, h59, c6f, decide_eq_true c7, c10, Bool.not_true, Bool.not_false]
      simp only [cond_true, cond_false]
      repeat apply TW.seq
      apply TW.skip
      simp only [onT, onTB]
      by_cases g11 : (0 : Int) ≤ i ∧ i < (prices.length : Int)
      case neg => rw [if_neg g11] at H1; cases H1
      rw [if_pos g11] at H1
      by_cases g12 : (0 : Int) ≤ ((gx n.links i).frm) ∧ ((gx n.links i).frm) < (potentials.length : Int)
      case neg => rw [if_neg g12] at H1; cases H1
      rw [if_pos g12] at H1
      by_cases g13 : (0 : Int) ≤ ((gx n.links i).to) ∧ ((gx n.links i).to) < (potentials.length : Int)
      case neg => rw [if_neg g13] at H1; cases H1
      rw [if_pos g13] at H1
      repeat apply TW.seq
      apply TW.draw (envs_ok ax) 15 [] [] []
      · kernel_rfl
      · kernel_rfl
      · simp (maxSteps := 900000) (disch := first | omega | decide | (simp only [lzA, Nat.reduceAdd, Nat.reduceLT]; done) | fail) only [b0, b1, b2, b3, b4, b5, b6, b7, b8, Nat.reduceAdd, Nat.reduceEqDiff, Nat.reduceMul, reduceIte, reduceCtorEq, h2, h17, h6, h18, c6f, decide_eq_true c7, c10, gx_some g11, gx_some g12, gx_some g13, fa51_0, fa51_1, ti27 ax, ti3 ax, encA]
        with_reducible rfl
      · exact trivial
      · simp (maxSteps := 900000) (disch := first | omega | decide | (simp only [lzA, Nat.reduceAdd, Nat.reduceLT]; done) | fail) only [b0, b1, b2, b3, b4, b5, b6, b7, b8, Nat.reduceAdd, Nat.reduceEqDiff, Nat.reduceMul, reduceIte, reduceCtorEq, h2, h17, h6, h18, c6f, decide_eq_true c7, c10, gx_some g11, gx_some g12, gx_some g13, fa51_0, fa51_1, ti27 ax, ti3 ax, encA]
        with_reducible rfl
      · exact trivial
      simp only [onT, onTB]
      refine TW.gen (bs := [.cells true 3 [lNodes n.nodes, lLinks n.links, lEdges n.edges], .cells true 2 [ints f_.links, .int .i64 f_.node], .cells true 3 [.int .i64 ((gx n.links i).frm), .int .i64 ((gx n.links i).to), .int .i64 ((gx n.links i).cap)]]) (fun h => h 2 = ints prices ∧ h 5 = ints flow ∧ h 6 = ints potentials ∧ h 7 = .ptr 0 0 3 ∧ h 8 = .ptr 1 0 2 ∧ h 17 = .int .i64 i ∧ h 18 = .ptr 2 0 3 ∧ h 19 = .int .i64 (IntKind.i64.wrap ((IntKind.i64.wrap ((gx prices i) + (gx potentials ((gx n.links i).frm)))) - (gx potentials ((gx n.links i).to)))) ∧ h 48 = lLinks n.links ∧ h 49 = .int .i64 (n.links.length : Int) ∧ h 50 = .int .i64 i) ?_ ?_ ?_
      · rfl
      · exact ⟨h2, h5, h6, h7, h8, h17, h18, rfl, h48, h49, h50⟩
      clear h2 h5 h6 h7 h8 h17 h18 h48 h49 h50 h59 h
      rintro h ⟨h2, h5, h6, h7, h8, h17, h18, h19, h48, h49, h50⟩
      by_cases c14 : (IntKind.i64.wrap ((IntKind.i64.wrap ((gx prices i) + (gx potentials ((gx n.links i).frm)))) - (gx potentials ((gx n.links i).to)))) < 0
      case neg =>
        rw [if_neg c14] at H1
        by_cases c19 : 0 < (IntKind.i64.wrap ((IntKind.i64.wrap ((gx prices i) + (gx potentials ((gx n.links i).frm)))) - (gx potentials ((gx n.links i).to))))
        case neg =>
          rw [if_neg c19] at H1
          repeat apply TW.seq
          apply TW.draw (envs_ok ax) 9 [] [] []
          · kernel_rfl
          · kernel_rfl
          · simp (maxSteps := 900000) (disch := first | omega | decide | (simp only [lzA, Nat.reduceAdd, Nat.reduceLT]; done) | fail) only [b0, b1, b2, b3, b4, b5, b6, b7, b8, Nat.reduceAdd, Nat.reduceEqDiff, Nat.reduceMul, reduceIte, reduceCtorEq, h19, h5, h17, h18, c6f, decide_eq_true c7, c10, decide_eq_false c14, decide_eq_false c19, encA]
            with_reducible rfl
          · exact trivial
          · simp (maxSteps := 900000) (disch := first | omega | decide | (simp only [lzA, Nat.reduceAdd, Nat.reduceLT]; done) | fail) only [b0, b1, b2, b3, b4, b5, b6, b7, b8, Nat.reduceAdd, Nat.reduceEqDiff, Nat.reduceMul, reduceIte, reduceCtorEq, h19, h5, h17, h18, c6f, decide_eq_true c7, c10, decide_eq_false c14, decide_eq_false c19, encA]
            with_reducible rfl
          · exact trivial
          simp only [onT, onTB]
          refine TW.gen (bs := [.cells true 3 [lNodes n.nodes, lLinks n.links, lEdges n.edges], .cells true 2 [ints f_.links, .int .i64 f_.node], .cells true 3 [.int .i64 ((gx n.links i).frm), .int .i64 ((gx n.links i).to), .int .i64 ((gx n.links i).cap)]]) (fun h => h 2 = ints prices ∧ h 5 = ints flow ∧ h 6 = ints potentials ∧ h 7 = .ptr 0 0 3 ∧ h 8 = .ptr 1 0 2 ∧ h 48 = lLinks n.links ∧ h 49 = .int .i64 (n.links.length : Int) ∧ h 50 = .int .i64 i ∧ h 97 = .bool false) ?_ ?_ ?_
          · rfl
          · exact ⟨h2, h5, h6, h7, h8, h48, h49, h50, rfl⟩
          clear h2 h5 h6 h7 h8 h17 h18 h19 h48 h49 h50 h
          rintro h ⟨h2, h5, h6, h7, h8, h48, h49, h50, h97⟩
          repeat apply TW.seq
          refine TW.cond (b := false) ?_ ?_
          · simp only [eT_tmp, eT_const, kT_bool, h97, c6f, decide_eq_true c7, c10, decide_eq_false c14, decide_eq_false c19, Bool.not_true, Bool.not_false]
          simp only [cond_true, cond_false]
          repeat apply TW.seq
          apply TW.skip
          simp only [onT, onTB]
          repeat apply TW.seq
          apply TW.region (envs_ok ax) [] []
          · kernel_rfl
          · simp (disch := first | omega | decide | (simp only [lzA, Nat.reduceAdd, Nat.reduceLT]; done) | fail) only [b0, b1, b2, b3, b4, b5, b6, b7, b8, Nat.reduceAdd, Nat.reduceEqDiff, Nat.reduceMul, reduceIte, reduceCtorEq, h50, c6f, decide_eq_true c7, c10, decide_eq_false c14, decide_eq_false c19, encA]
            with_reducible rfl
          · exact trivial
          simp only [onT, onTB]

          refine ⟨m, by omega, _, rfl, by simp only [lzA] <;> omega, ?_, ?_, ?_⟩
          · simp only [ids2A, ids2B, ids2C, reduceIte, Nat.reduceEqDiff, Nat.reduceAdd, Nat.reduceLT, Nat.reduceLeDiff, idsA, idsB, h2, h5, h6, h7, h8, h48, h49, h50, h97]
          · simp only [ids2A, ids2B, ids2C, reduceIte, Nat.reduceEqDiff, Nat.reduceAdd, Nat.reduceLT, Nat.reduceLeDiff, idsA, idsB, h2, h5, h6, h7, h8, h48, h49, h50, h97]
          · exact ⟨(IntKind.i64.wrap (i + 1)), H1, (keepT_at (by decide)).trans h2, (keepT_at (by decide)).trans h5, (keepT_at (by decide)).trans h6, (keepT_at (by decide)).trans h7, (keepT_at (by decide)).trans h8, (keepT_at (by decide)).trans h48, (keepT_at (by decide)).trans h49, (keepT_at (by decide)).trans rfl, (by first | rfl | trivial)⟩
        rw [if_pos c19] at H1
        by_cases g20 : (0 : Int) ≤ i ∧ i < (flow.length : Int)
        case neg => rw [if_neg g20] at H1; cases H1
        rw [if_pos g20] at H1
        repeat apply TW.seq
        apply TW.draw (envs_ok ax) 9 [] [] []
        · kernel_rfl
        · kernel_rfl
        · simp (maxSteps := 900000) (disch := first | omega | decide | (simp only [lzA, Nat.reduceAdd, Nat.reduceLT]; done) | fail) only [b0, b1, b2, b3, b4, b5, b6, b7, b8, Nat.reduceAdd, Nat.reduceEqDiff, Nat.reduceMul, reduceIte, reduceCtorEq, h19, h5, h17, h18, c6f, decide_eq_true c7, c10, decide_eq_false c14, decide_eq_true c19, gx_some g20, ti27 ax, ti3 ax, encA]
          with_reducible rfl
        · exact trivial
        · simp (maxSteps := 900000) (disch := first | omega | decide | (simp only [lzA, Nat.reduceAdd, Nat.reduceLT]; done) | fail) only [b0, b1, b2, b3, b4, b5, b6, b7, b8, Nat.reduceAdd, Nat.reduceEqDiff, Nat.reduceMul, reduceIte, reduceCtorEq, h19, h5, h17, h18, c6f, decide_eq_true c7, c10, decide_eq_false c14, decide_eq_true c19, gx_some g20, ti27 ax, ti3 ax, encA]
          with_reducible rfl
        · exact trivial
        simp only [onT, onTB]
        refine TW.gen (bs := [.cells true 3 [lNodes n.nodes, lLinks n.links, lEdges n.edges], .cells true 2 [ints f_.links, .int .i64 f_.node], .cells true 3 [.int .i64 ((gx n.links i).frm), .int .i64 ((gx n.links i).to), .int .i64 ((gx n.links i).cap)]]) (fun h => h 2 = ints prices ∧ h 5 = ints flow ∧ h 6 = ints potentials ∧ h 7 = .ptr 0 0 3 ∧ h 8 = .ptr 1 0 2 ∧ h 48 = lLinks n.links ∧ h 49 = .int .i64 (n.links.length : Int) ∧ h 50 = .int .i64 i ∧ h 97 = .bool (decide (0 < (gx flow i)))) ?_ ?_ ?_
        · rfl
        · exact ⟨h2, h5, h6, h7, h8, h48, h49, h50, rfl⟩
        clear h2 h5 h6 h7 h8 h17 h18 h19 h48 h49 h50 h
        rintro h ⟨h2, h5, h6, h7, h8, h48, h49, h50, h97⟩
        by_cases c21 : 0 < (gx flow i)
        case neg =>
          rw [if_neg c21] at H1
          repeat apply TW.seq
          refine TW.cond (b := false) ?_ ?_
          · simp only [eT_tmp, eT_const, kT_bool, h97, c6f, decide_eq_true c7, c10, decide_eq_false c14, decide_eq_true c19, decide_eq_false c21, Bool.not_true, Bool.not_false]
          simp only [cond_true, cond_false]
          repeat apply TW.seq
          apply TW.skip
          simp only [onT, onTB]
          repeat apply TW.seq
          apply TW.region (envs_ok ax) [] []
          · kernel_rfl
          · simp (disch := first | omega | decide | (simp only [lzA, Nat.reduceAdd, Nat.reduceLT]; done) | fail) only [b0, b1, b2, b3, b4, b5, b6, b7, b8, Nat.reduceAdd, Nat.reduceEqDiff, Nat.reduceMul, reduceIte, reduceCtorEq, h50, c6f, decide_eq_true c7, c10, decide_eq_false c14, decide_eq_true c19, decide_eq_false c21, encA]
            with_reducible rfl
          · exact trivial
          simp only [onT, onTB]

          refine ⟨m, by omega, _, rfl, by simp only [lzA] <;> omega, ?_, ?_, ?_⟩
          · simp only [ids2A, ids2B, ids2C, reduceIte, Nat.reduceEqDiff, Nat.reduceAdd, Nat.reduceLT, Nat.reduceLeDiff, idsA, idsB, h2, h5, h6, h7, h8, h48, h49, h50, h97]
          · simp only [ids2A, ids2B, ids2C, reduceIte, Nat.reduceEqDiff, Nat.reduceAdd, Nat.reduceLT, Nat.reduceLeDiff, idsA, idsB, h2, h5, h6, h7, h8, h48, h49, h50, h97]
          · exact ⟨(IntKind.i64.wrap (i + 1)), H1, (keepT_at (by decide)).trans h2, (keepT_at (by decide)).trans h5, (keepT_at (by decide)).trans h6, (keepT_at (by decide)).trans h7, (keepT_at (by decide)).trans h8, (keepT_at (by decide)).trans h48, (keepT_at (by decide)).trans h49, (keepT_at (by decide)).trans rfl, (by first | rfl | trivial)⟩
        rw [if_pos c21] at H1
        repeat apply TW.seq
        refine TW.cond (b := true) ?_ ?_
        · simp only [eT_tmp, eT_const, kT_bool, h97, c6f, decide_eq_true c7, c10, decide_eq_false c14, decide_eq_true c19, decide_eq_true c21, Bool.not_true, Bool.not_false]
        simp only [cond_true, cond_false]
        repeat apply TW.seq
        apply TW.region (envs_ok ax) [] []
        · kernel_rfl
        · simp (disch := first | omega | decide | (simp only [lzA, Nat.reduceAdd, Nat.reduceLT]; done) | fail) only [b0, b1, b2, b3, b4, b5, b6, b7, b8, Nat.reduceAdd, Nat.reduceEqDiff, Nat.reduceMul, reduceIte, reduceCtorEq, c6f, decide_eq_true c7, c10, decide_eq_false c14, decide_eq_true c19, decide_eq_true c21, encA]
          with_reducible rfl
        · exact trivial
        simp only [onT, onTB]
        refine TW.gen (bs := [.cells true 3 [lNodes n.nodes, lLinks n.links, lEdges n.edges], .cells true 2 [ints f_.links, .int .i64 f_.node], .cells true 3 [.int .i64 ((gx n.links i).frm), .int .i64 ((gx n.links i).to), .int .i64 ((gx n.links i).cap)]]) (fun h => h 14 = .bool false) ?_ ?_ ?_
        · rfl
        · exact rfl
        clear h2 h5 h6 h7 h8 h48 h49 h50 h97 h
        rintro h h14
        apply TW.ret
        cases H1
        rw [Sum.elim_inl] at H
        cases H
        refine ⟨.inr rfl, ?_⟩
        first | (simp only [Try.results15, resT, h14]; done) | (simp only [Try.results15, resT, h14]; rfl)
      rw [if_pos c14] at H1
      by_cases g15 : (0 : Int) ≤ i ∧ i < (flow.length : Int)
      case neg => rw [if_neg g15] at H1; cases H1
      rw [if_pos g15] at H1
      by_cases c16 : (gx flow i) < ((gx n.links i).cap)
      case neg =>
        rw [if_neg c16] at H1
        by_cases c17 : 0 < (IntKind.i64.wrap ((IntKind.i64.wrap ((gx prices i) + (gx potentials ((gx n.links i).frm)))) - (gx potentials ((gx n.links i).to))))
        case neg =>
          rw [if_neg c17] at H1
          repeat apply TW.seq
          apply TW.draw (envs_ok ax) 9 [] [] []
          · kernel_rfl
          · kernel_rfl
          · simp (maxSteps := 900000) (disch := first | omega | decide | (simp only [lzA, Nat.reduceAdd, Nat.reduceLT]; done) | fail) only [b0, b1, b2, b3, b4, b5, b6, b7, b8, Nat.reduceAdd, Nat.reduceEqDiff, Nat.reduceMul, reduceIte, reduceCtorEq, h19, h5, h17, h18, c6f, decide_eq_true c7, c10, decide_eq_true c14, decide_eq_false c16, decide_eq_false c17, gx_some g15, fa51_2, ti27 ax, ti3 ax, encA]
            with_reducible rfl
          · exact trivial
          · simp (maxSteps := 900000) (disch := first | omega | decide | (simp only [lzA, Nat.reduceAdd, Nat.reduceLT]; done) | fail) only [b0, b1, b2, b3, b4, b5, b6, b7, b8, Nat.reduceAdd, Nat.reduceEqDiff, Nat.reduceMul, reduceIte, reduceCtorEq, h19, h5, h17, h18, c6f, decide_eq_true c7, c10, decide_eq_true c14, decide_eq_false c16, decide_eq_false c17, gx_some g15, fa51_2, ti27 ax, ti3 ax, encA]
            with_reducible rfl
          · exact trivial
          simp only [onT, onTB]
          refine TW.gen (bs := [.cells true 3 [lNodes n.nodes, lLinks n.links, lEdges n.edges], .cells true 2 [ints f_.links, .int .i64 f_.node], .cells true 3 [.int .i64 ((gx n.links i).frm), .int .i64 ((gx n.links i).to), .int .i64 ((gx n.links i).cap)]]) (fun h => h 2 = ints prices ∧ h 5 = ints flow ∧ h 6 = ints potentials ∧ h 7 = .ptr 0 0 3 ∧ h 8 = .ptr 1 0 2 ∧ h 48 = lLinks n.links ∧ h 49 = .int .i64 (n.links.length : Int) ∧ h 50 = .int .i64 i ∧ h 97 = .bool false) ?_ ?_ ?_
          · rfl
          · exact ⟨h2, h5, h6, h7, h8, h48, h49, h50, rfl⟩
          clear h2 h5 h6 h7 h8 h17 h18 h19 h48 h49 h50 h
          rintro h ⟨h2, h5, h6, h7, h8, h48, h49, h50, h97⟩
          repeat apply TW.seq
          refine TW.cond (b := false) ?_ ?_
          · simp only [eT_tmp, eT_const, kT_bool, h97, c6f, decide_eq_true c7, c10, decide_eq_true c14, decide_eq_false c16, decide_eq_false c17, Bool.not_true, Bool.not_false]
          simp only [cond_true, cond_false]
          repeat apply TW.seq
          apply TW.skip
          simp only [onT, onTB]
          repeat apply TW.seq
          apply TW.region (envs_ok ax) [] []
          · kernel_rfl
          · simp (disch := first | omega | decide | (simp only [lzA, Nat.reduceAdd, Nat.reduceLT]; done) | fail) only [b0, b1, b2, b3, b4, b5, b6, b7, b8, Nat.reduceAdd, Nat.reduceEqDiff, Nat.reduceMul, reduceIte, reduceCtorEq, h50, c6f, decide_eq_true c7, c10, decide_eq_true c14, decide_eq_false c16, decide_eq_false c17, encA]
            with_reducible rfl
          · exact trivial
          simp only [onT, onTB]

          refine ⟨m, by omega, _, rfl, by simp only [lzA] <;> omega, ?_, ?_, ?_⟩
          · simp only [ids2A, ids2B, ids2C, reduceIte, Nat.reduceEqDiff, Nat.reduceAdd, Nat.reduceLT, Nat.reduceLeDiff, idsA, idsB, h2, h5, h6, h7, h8, h48, h49, h50, h97]
          · simp only [ids2A, ids2B, ids2C, reduceIte, Nat.reduceEqDiff, Nat.reduceAdd, Nat.reduceLT, Nat.reduceLeDiff, idsA, idsB, h2, h5, h6, h7, h8, h48, h49, h50, h97]
          · exact ⟨(IntKind.i64.wrap (i + 1)), H1, (keepT_at (by decide)).trans h2, (keepT_at (by decide)).trans h5, (keepT_at (by decide)).trans h6, (keepT_at (by decide)).trans h7, (keepT_at (by decide)).trans h8, (keepT_at (by decide)).trans h48, (keepT_at (by decide)).trans h49, (keepT_at (by decide)).trans rfl, (by first | rfl | trivial)⟩
        rw [if_pos c17] at H1
        repeat apply TW.seq
        apply TW.draw (envs_ok ax) 9 [] [] []
        · kernel_rfl
        · kernel_rfl
        · simp (maxSteps := 900000) (disch := first | omega | decide | (simp only [lzA, Nat.reduceAdd, Nat.reduceLT]; done) | fail) only [b0, b1, b2, b3, b4, b5, b6, b7, b8, Nat.reduceAdd, Nat.reduceEqDiff, Nat.reduceMul, reduceIte, reduceCtorEq, h19, h5, h17, h18, c6f, decide_eq_true c7, c10, decide_eq_true c14, decide_eq_false c16, decide_eq_true c17, gx_some g15, fa51_2, ti27 ax, ti3 ax, encA]
          with_reducible rfl
        · exact trivial
        · simp (maxSteps := 900000) (disch := first | omega | decide | (simp only [lzA, Nat.reduceAdd, Nat.reduceLT]; done) | fail) only [b0, b1, b2, b3, b4, b5, b6, b7, b8, Nat.reduceAdd, Nat.reduceEqDiff, Nat.reduceMul, reduceIte, reduceCtorEq, h19, h5, h17, h18, c6f, decide_eq_true c7, c10, decide_eq_true c14, decide_eq_false c16, decide_eq_true c17, gx_some g15, fa51_2, ti27 ax, ti3 ax, encA]
          with_reducible rfl
        · exact trivial
        simp only [onT, onTB]
        refine TW.gen (bs := [.cells true 3 [lNodes n.nodes, lLinks n.links, lEdges n.edges], .cells true 2 [ints f_.links, .int .i64 f_.node], .cells true 3 [.int .i64 ((gx n.links i).frm), .int .i64 ((gx n.links i).to), .int .i64 ((gx n.links i).cap)]]) (fun h => h 2 = ints prices ∧ h 5 = ints flow ∧ h 6 = ints potentials ∧ h 7 = .ptr 0 0 3 ∧ h 8 = .ptr 1 0 2 ∧ h 48 = lLinks n.links ∧ h 49 = .int .i64 (n.links.length : Int) ∧ h 50 = .int .i64 i ∧ h 97 = .bool (decide (0 < (gx flow i)))) ?_ ?_ ?_
        · rfl
        · exact ⟨h2, h5, h6, h7, h8, h48, h49, h50, rfl⟩
        clear h2 h5 h6 h7 h8 h17 h18 h19 h48 h49 h50 h
        rintro h ⟨h2, h5, h6, h7, h8, h48, h49, h50, h97⟩
        by_cases c18 : 0 < (gx flow i)
        case neg =>
          rw [if_neg c18] at H1
          repeat apply TW.seq
          refine TW.cond (b := false) ?_ ?_
          · simp only [eT_tmp, eT_const, kT_bool, h97, c6f, decide_eq_true c7, c10, decide_eq_true c14, decide_eq_false c16, decide_eq_true c17, decide_eq_false c18, Bool.not_true, Bool.not_false]
          simp only [cond_true, cond_false]
          repeat apply TW.seq
          apply TW.skip
          simp only [onT, onTB]
          repeat apply TW.seq
          apply TW.region (envs_ok ax) [] []
          · kernel_rfl
          · simp (disch := first | omega | decide | (simp only [lzA, Nat.reduceAdd, Nat.reduceLT]; done) | fail) only [b0, b1, b2, b3, b4, b5, b6, b7, b8, Nat.reduceAdd, Nat.reduceEqDiff, Nat.reduceMul, reduceIte, reduceCtorEq, h50, c6f, decide_eq_true c7, c10, decide_eq_true c14, decide_eq_false c16, decide_eq_true c17, decide_eq_false c18, encA]
            with_reducible rfl
          · exact trivial
          simp only [onT, onTB]

          refine ⟨m, by omega, _, rfl, by simp only [lzA] <;> omega, ?_, ?_, ?_⟩
          · simp only [ids2A, ids2B, ids2C, reduceIte, Nat.reduceEqDiff, Nat.reduceAdd, Nat.reduceLT, Nat.reduceLeDiff, idsA, idsB, h2, h5, h6, h7, h8, h48, h49, h50, h97]
          · simp only [ids2A, ids2B, ids2C, reduceIte, Nat.reduceEqDiff, Nat.reduceAdd, Nat.reduceLT, Nat.reduceLeDiff, idsA, idsB, h2, h5, h6, h7, h8, h48, h49, h50, h97]
          · exact ⟨(IntKind.i64.wrap (i + 1)), H1, (keepT_at (by decide)).trans h2, (keepT_at (by decide)).trans h5, (keepT_at (by decide)).trans h6, (keepT_at (by decide)).trans h7, (keepT_at (by decide)).trans h8, (keepT_at (by decide)).trans h48, (keepT_at (by decide)).trans h49, (keepT_at (by decide)).trans rfl, (by first | rfl | trivial)⟩
        rw [if_pos c18] at H1
        repeat apply TW.seq
        refine TW.cond (b := true) ?_ ?_
        · simp only [eT_tmp, eT_const, kT_bool, h97, c6f, decide_eq_true c7, c10, decide_eq_true c14, decide_eq_false c16, decide_eq_true c17, decide_eq_true c18, Bool.not_true, Bool.not_false]
        simp only [cond_true, cond_false]
        repeat apply TW.seq
        apply TW.region (envs_ok ax) [] []
        · kernel_rfl
        · simp (disch := first | omega | decide | (simp only [lzA, Nat.reduceAdd, Nat.reduceLT]; done) | fail) only [b0, b1, b2, b3, b4, b5, b6, b7, b8, Nat.reduceAdd, Nat.reduceEqDiff, Nat.reduceMul, reduceIte, reduceCtorEq, c6f, decide_eq_true c7, c10, decide_eq_true c14, decide_eq_false c16, decide_eq_true c17, decide_eq_true c18, encA]
          with_reducible rfl
        · exact trivial
        simp only [onT, onTB]
        refine TW.gen (bs := [.cells true 3 [lNodes n.nodes, lLinks n.links, lEdges n.edges], .cells true 2 [ints f_.links, .int .i64 f_.node], .cells true 3 [.int .i64 ((gx n.links i).frm), .int .i64 ((gx n.links i).to), .int .i64 ((gx n.links i).cap)]]) (fun h => h 14 = .bool false) ?_ ?_ ?_
        · rfl
        · exact rfl
        clear h2 h5 h6 h7 h8 h48 h49 h50 h97 h
        rintro h h14
        apply TW.ret
        cases H1
        rw [Sum.elim_inl] at H
        cases H
        refine ⟨.inr rfl, ?_⟩
        first | (simp only [Try.results15, resT, h14]; done) | (simp only [Try.results15, resT, h14]; rfl)
      rw [if_pos c16] at H1
      repeat apply TW.seq
      apply TW.draw (envs_ok ax) 9 [] [] []
      · kernel_rfl
      · kernel_rfl
      · simp (maxSteps := 900000) (disch := first | omega | decide | (simp only [lzA, Nat.reduceAdd, Nat.reduceLT]; done) | fail) only [b0, b1, b2, b3, b4, b5, b6, b7, b8, Nat.reduceAdd, Nat.reduceEqDiff, Nat.reduceMul, reduceIte, reduceCtorEq, h19, h5, h17, h18, c6f, decide_eq_true c7, c10, decide_eq_true c14, decide_eq_true c16, gx_some g15, fa51_2, ti27 ax, ti3 ax, encA]
        with_reducible rfl
      · exact trivial
      · simp (maxSteps := 900000) (disch := first | omega | decide | (simp only [lzA, Nat.reduceAdd, Nat.reduceLT]; done) | fail) only [b0, b1, b2, b3, b4, b5, b6, b7, b8, Nat.reduceAdd, Nat.reduceEqDiff, Nat.reduceMul, reduceIte, reduceCtorEq, h19, h5, h17, h18, c6f, decide_eq_true c7, c10, decide_eq_true c14, decide_eq_true c16, gx_some g15, fa51_2, ti27 ax, ti3 ax, encA]
        with_reducible rfl
      · exact trivial
      simp only [onT, onTB]
      refine TW.gen (bs := [.cells true 3 [lNodes n.nodes, lLinks n.links, lEdges n.edges], .cells true 2 [ints f_.links, .int .i64 f_.node], .cells true 3 [.int .i64 ((gx n.links i).frm), .int .i64 ((gx n.links i).to), .int .i64 ((gx n.links i).cap)]]) (fun h => h 2 = ints prices ∧ h 5 = ints flow ∧ h 6 = ints potentials ∧ h 7 = .ptr 0 0 3 ∧ h 8 = .ptr 1 0 2 ∧ h 48 = lLinks n.links ∧ h 49 = .int .i64 (n.links.length : Int) ∧ h 50 = .int .i64 i ∧ h 97 = .bool true) ?_ ?_ ?_
      · rfl
      · exact ⟨h2, h5, h6, h7, h8, h48, h49, h50, rfl⟩
      clear h2 h5 h6 h7 h8 h17 h18 h19 h48 h49 h50 h
      rintro h ⟨h2, h5, h6, h7, h8, h48, h49, h50, h97⟩
      repeat apply TW.seq
      refine TW.cond (b := true) ?_ ?_
      · simp only [eT_tmp, eT_const, kT_bool, h97, c6f, decide_eq_true c7, c10, decide_eq_true c14, decide_eq_true c16, Bool.not_true, Bool.not_false]
      simp only [cond_true, cond_false]
      repeat apply TW.seq
      apply TW.region (envs_ok ax) [] []
      · kernel_rfl
      · simp (disch := first | omega | decide | (simp only [lzA, Nat.reduceAdd, Nat.reduceLT]; done) | fail) only [b0, b1, b2, b3, b4, b5, b6, b7, b8, Nat.reduceAdd, Nat.reduceEqDiff, Nat.reduceMul, reduceIte, reduceCtorEq, c6f, decide_eq_true c7, c10, decide_eq_true c14, decide_eq_true c16, encA]
        with_reducible rfl
      · exact trivial
      simp only [onT, onTB]
      refine TW.gen (bs := [.cells true 3 [lNodes n.nodes, lLinks n.links, lEdges n.edges], .cells true 2 [ints f_.links, .int .i64 f_.node], .cells true 3 [.int .i64 ((gx n.links i).frm), .int .i64 ((gx n.links i).to), .int .i64 ((gx n.links i).cap)]]) (fun h => h 14 = .bool false) ?_ ?_ ?_
      · rfl
      · exact rfl
      clear h2 h5 h6 h7 h8 h48 h49 h50 h97 h
      rintro h h14
      apply TW.ret
      cases H1
      rw [Sum.elim_inl] at H
      cases H
      refine ⟨.inr rfl, ?_⟩
      first | (simp only [Try.results15, resT, h14]; done) | (simp only [Try.results15, resT, h14]; rfl)
    clear h2 h5 h6 h7 h8 h48 h49 h50 h
    rintro h bs ⟨s_2, rfl, rfl⟩
    rw [Sum.elim_inr] at H
    simp only [onT, onTB]
    repeat apply TW.seq
    apply TW.region (envs_ok ax) [] []
    · kernel_rfl
    · simp (disch := first | omega | decide | (simp only [lzA, Nat.reduceAdd, Nat.reduceLT]; done) | fail) only [b0, b1, b2, b3, b4, b5, b6, b7, b8, Nat.reduceAdd, Nat.reduceEqDiff, Nat.reduceMul, reduceIte, reduceCtorEq, c6f, encA]
      with_reducible rfl
    · exact trivial
    simp only [onT, onTB]
    refine TW.gen (bs := [.cells true 3 [lNodes n.nodes, lLinks n.links, lEdges n.edges], .cells true 2 [ints f_.links, .int .i64 f_.node]]) (fun h => h 14 = .bool true) ?_ ?_ ?_
    · rfl
    · exact rfl
    clear  h
    rintro h h14
    apply TW.ret
    cases H
    refine ⟨.inr rfl, ?_⟩
    first | (simp only [Try.results15, resT, h14]; done) | (simp only [Try.results15, resT, h14]; rfl)
  rw [if_pos c6] at H
  repeat apply TW.seq
  refine TW.cond (b := true) ?_ ?_
  · simp only [eT_tmp, eT_const, kT_bool, h46, c6, Bool.not_true, Bool.not_false]
  simp only [cond_true, cond_false]
  repeat apply TW.seq
  apply TW.region (envs_ok ax) [] []
  · kernel_rfl
  · simp (disch := first | omega | decide | (simp only [lzA, Nat.reduceAdd, Nat.reduceLT]; done) | fail) only [b0, b1, b2, b3, b4, b5, b6, b7, b8, Nat.reduceAdd, Nat.reduceEqDiff, Nat.reduceMul, reduceIte, reduceCtorEq, c6, encA]
    with_reducible rfl
  · exact trivial
  simp only [onT, onTB]
  refine TW.gen (bs := [.cells true 3 [lNodes n.nodes, lLinks n.links, lEdges n.edges], .cells true 2 [ints f_.links, .int .i64 f_.node]]) (fun h => h 14 = .bool false) ?_ ?_ ?_
  · rfl
  · exact rfl
  clear h2 h5 h6 h7 h8 h46 h
  rintro h h14
  apply TW.ret
  cases H
  refine ⟨.inr rfl, ?_⟩
  first | (simp only [Try.results15, resT, h14]; done) | (simp only [Try.results15, resT, h14]; rfl)
end Go.Proofs.Ytfalnphlgfoflaa