/- Functions as plain functions, and that the code computes them. -/
import Derived.Test.YtfalnphlgfoflaaSB
namespace Go.Proofs.Ytfalnphlgfoflaa
open Go Go.RowKit
set_option linter.unusedSimpArgs false
set_option linter.unusedVariables false
set_option linter.unusedSectionVars false
set_option maxRecDepth 100000
def sl_FlowCertifiesSoundly (k : Nat) (n : Net) (f_ : Failure) (from_ : Int) (to_ : Int) (x : List Int) (cut : List Int) (prices : List Int) (pot : List Int) (other : List Int) : Option Bool := ((((sl_right k n f_ from_ to_).bind fun rright => (if rright = true then (if 40 < (x.length : Int) then some true else (if 40 < (cut.length : Int) then some true else (if 40 < (prices.length : Int) then some true else (if 40 < (pot.length : Int) then some true else some (decide (40 < (other.length : Int))))))) else some true)) : Option Bool).bind fun s_ => (if s_ = true then some true else ((sflow_Check k n f_ from_ to_ x).bind fun rCheck => ((sflow_Check k n f_ from_ to_ other).bind fun rCheck2 => (((if rCheck.2 = true then some (!rCheck2.2) else some true) : Option Bool).bind fun s_2 => (if s_2 = true then some true else ((((sflow_Greatest k n f_ from_ to_ x cut).bind fun rGreatest => (if rGreatest = true then some (decide (rCheck.1 < rCheck2.1)) else some false)) : Option Bool).bind fun s_3 => (if s_3 = true then some false else (if rCheck.1 ≠ rCheck2.1 then some true else ((sflow_Cheapest k n f_ prices from_ to_ x pot).bind fun rCheapest => (if rCheapest = true then ((sflow_Cost k prices x).bind fun rCost => ((sflow_Cost k prices other).bind fun rCost2 => some (decide (rCost ≤ rCost2)))) else some true)))))))))))
set_option maxHeartbeats 8000000 in
theorem sl_FlowCertifiesSoundly_ok (ax : Axs) (hx : Plain ax) (k : Nat) (n : Net) (f_ : Failure) (from_ : Int) (to_ : Int) (x : List Int) (cut : List Int) (prices : List Int) (pot : List Int) (other : List Int) (v : Bool) (H : sl_FlowCertifiesSoundly k n f_ from_ to_ x cut prices pot other = some v) : Pure Try.prog (EE ax) [] 7 [eNet n, eFail f_, .int .i64 from_, .int .i64 to_, ints x, ints cut, ints prices, ints pot, ints other] (.bool v) := by
  rw [sl_FlowCertifiesSoundly] at H
  refine Pure.enter (fn := Try.f7) 118 (hx.no _ (by decide)) (fn7 ax) rfl Try.ntmps7 (by decide) (by simp) (by simp only [ids2B, ids2C, idsA, idsB, Bool.and_self]) (by first | rfl | simp only [ids2B, ids2C, idsA, idsB, Bool.and_self] | simp only [tupT, ids2B, ids2C, idsA, idsB, Bool.and_self]) ?_
  simp only [argT_cons, argT_nil, Nat.reduceAdd]
  refine TW.gen (bs := []) (fun h => h 0 = eNet n ∧ h 1 = eFail f_ ∧ h 2 = .int .i64 from_ ∧ h 3 = .int .i64 to_ ∧ h 4 = ints x ∧ h 5 = ints cut ∧ h 6 = ints prices ∧ h 7 = ints pot ∧ h 8 = ints other) rfl ?_ ?_
  · exact ⟨rfl, rfl, rfl, rfl, rfl, rfl, rfl, rfl, rfl⟩
  rintro h ⟨h0, h1, h2, h3, h4, h5, h6, h7, h8⟩
  repeat apply TW.seq
  apply TW.region (envs_ok ax) [] []
  · kernel_rfl
  · simp (disch := first | omega | decide | (simp only [lzA, Nat.reduceAdd, Nat.reduceLT]; done) | fail) only [b0, b1, b2, b3, b4, b5, b6, b7, b8, Nat.reduceAdd, Nat.reduceEqDiff, Nat.reduceMul, reduceIte, reduceCtorEq, h0, h1, encA]
    with_reducible rfl
  · exact trivial
  simp only [onT, onTB]
  refine TW.gen (bs := [.cells true 3 [lNodes n.nodes, lLinks n.links, lEdges n.edges], .cells true 2 [ints f_.links, .int .i64 f_.node]]) (fun h => h 2 = .int .i64 from_ ∧ h 3 = .int .i64 to_ ∧ h 4 = ints x ∧ h 5 = ints cut ∧ h 6 = ints prices ∧ h 7 = ints pot ∧ h 8 = ints other ∧ h 9 = .ptr 0 0 3 ∧ h 10 = .ptr 1 0 2) ?_ ?_ ?_
  · rfl
  · exact ⟨h2, h3, h4, h5, h6, h7, h8, rfl, rfl⟩
  clear h0 h1 h2 h3 h4 h5 h6 h7 h8 h
  rintro h ⟨h2, h3, h4, h5, h6, h7, h8, h9, h10⟩
  obtain ⟨s_, H1, H⟩ := bsome H
  repeat apply TW.seq
  refine TW.cutN [2, 3, 4, 5, 6, 7, 8, 9, 10, 53] 2 (by simp only [lzA] <;> omega) (fun h bs => h 2 = .int .i64 from_ ∧ h 3 = .int .i64 to_ ∧ h 4 = ints x ∧ h 5 = ints cut ∧ h 6 = ints prices ∧ h 7 = ints pot ∧ h 8 = ints other ∧ h 9 = .ptr 0 0 3 ∧ h 10 = .ptr 1 0 2 ∧ h 53 = .bool s_ ∧ bs = [.cells true 3 [lNodes n.nodes, lLinks n.links, lEdges n.edges], .cells true 2 [ints f_.links, .int .i64 f_.node]]) ?_ ?_
  · skip
    obtain ⟨rright, e1, H1⟩ := bsome H1
    by_cases c2 : rright = true
    case neg =>
      rw [if_neg c2] at H1
      have c2f := (Bool.not_eq_true _).mp c2
      repeat apply TW.seq
      apply TW.region (envs_ok ax) [] [(.bool rright, stL [.cells true 3 [lNodes n.nodes, lLinks n.links, lEdges n.edges], .cells true 2 [ints f_.links, .int .i64 f_.node]])]
      · kernel_rfl
      · simp (maxSteps := 900000) (disch := first | omega | decide | (simp only [lzA, Nat.reduceAdd, Nat.reduceLT]; done) | fail) only [b0, b1, b2, b3, b4, b5, b6, b7, b8, Nat.reduceAdd, Nat.reduceEqDiff, Nat.reduceMul, reduceIte, reduceCtorEq, h9, h10, h2, h3, h4, h5, h6, h7, h8, c2f, ti26 ax, ti29 ax, encA]
        with_reducible rfl
      · exact ⟨(by have q := Call0.call ((sl_right_ok ax hx k n f_ from_ to_ rright e1 ).call (stL [.cells true 3 [lNodes n.nodes, lLinks n.links, lEdges n.edges], .cells true 2 [ints f_.links, .int .i64 f_.node]])); (try simp only [c2f] at q); exact q), trivial⟩
      simp only [onT, onTB]

      cases H1
      refine ⟨_, rfl, by simp only [lzA] <;> omega, ?_, ?_, ?_⟩
      · simp only [ids2A, ids2B, ids2C, reduceIte, Nat.reduceEqDiff, Nat.reduceAdd, Nat.reduceLT, Nat.reduceLeDiff, idsA, idsB, h2, h3, h4, h5, h6, h7, h8, h9, h10]
      · simp only [ids2A, ids2B, ids2C, reduceIte, Nat.reduceEqDiff, Nat.reduceAdd, Nat.reduceLT, Nat.reduceLeDiff, idsA, idsB, h2, h3, h4, h5, h6, h7, h8, h9, h10]
      · exact ⟨(keepT_at (by decide)).trans h2, (keepT_at (by decide)).trans h3, (keepT_at (by decide)).trans h4, (keepT_at (by decide)).trans h5, (keepT_at (by decide)).trans h6, (keepT_at (by decide)).trans h7, (keepT_at (by decide)).trans h8, (keepT_at (by decide)).trans h9, (keepT_at (by decide)).trans h10, (keepT_at (by decide)).trans rfl, (by first | rfl | trivial)⟩
    rw [if_pos c2] at H1
    by_cases c3 : 40 < (x.length : Int)
    case neg =>
      rw [if_neg c3] at H1
      by_cases c4 : 40 < (cut.length : Int)
      case neg =>
        rw [if_neg c4] at H1
        by_cases c5 : 40 < (prices.length : Int)
        case neg =>
          rw [if_neg c5] at H1
          by_cases c6 : 40 < (pot.length : Int)
          case neg =>
            rw [if_neg c6] at H1
            repeat apply TW.seq
            apply TW.region (envs_ok ax) [] [(.bool rright, stL [.cells true 3 [lNodes n.nodes, lLinks n.links, lEdges n.edges], .cells true 2 [ints f_.links, .int .i64 f_.node]])]
            · kernel_rfl
            · simp (maxSteps := 900000) (disch := first | omega | decide | (simp only [lzA, Nat.reduceAdd, Nat.reduceLT]; done) | fail) only [b0, b1, b2, b3, b4, b5, b6, b7, b8, Nat.reduceAdd, Nat.reduceEqDiff, Nat.reduceMul, reduceIte, reduceCtorEq, h9, h10, h2, h3, h4, h5, h6, h7, h8, c2, decide_eq_false c3, decide_eq_false c4, decide_eq_false c5, decide_eq_false c6, ti26 ax, ti27 ax, ti29 ax, encA]
              with_reducible rfl
            · exact ⟨(by have q := Call0.call ((sl_right_ok ax hx k n f_ from_ to_ rright e1 ).call (stL [.cells true 3 [lNodes n.nodes, lLinks n.links, lEdges n.edges], .cells true 2 [ints f_.links, .int .i64 f_.node]])); (try simp only [c2] at q); exact q), trivial⟩
            simp only [onT, onTB]

            cases H1
            refine ⟨_, rfl, by simp only [lzA] <;> omega, ?_, ?_, ?_⟩
            · simp only [ids2A, ids2B, ids2C, reduceIte, Nat.reduceEqDiff, Nat.reduceAdd, Nat.reduceLT, Nat.reduceLeDiff, idsA, idsB, h2, h3, h4, h5, h6, h7, h8, h9, h10]
            · simp only [ids2A, ids2B, ids2C, reduceIte, Nat.reduceEqDiff, Nat.reduceAdd, Nat.reduceLT, Nat.reduceLeDiff, idsA, idsB, h2, h3, h4, h5, h6, h7, h8, h9, h10]
            · exact ⟨(keepT_at (by decide)).trans h2, (keepT_at (by decide)).trans h3, (keepT_at (by decide)).trans h4, (keepT_at (by decide)).trans h5, (keepT_at (by decide)).trans h6, (keepT_at (by decide)).trans h7, (keepT_at (by decide)).trans h8, (keepT_at (by decide)).trans h9, (keepT_at (by decide)).trans h10, (keepT_at (by decide)).trans rfl, (by first | rfl | trivial)⟩
          rw [if_pos c6] at H1
          repeat apply TW.seq
          apply TW.region (envs_ok ax) [] [(.bool rright, stL [.cells true 3 [lNodes n.nodes, lLinks n.links, lEdges n.edges], .cells true 2 [ints f_.links, .int .i64 f_.node]])]
          · kernel_rfl
          · simp (maxSteps := 900000) (disch := first | omega | decide | (simp only [lzA, Nat.reduceAdd, Nat.reduceLT]; done) | fail) only [b0, b1, b2, b3, b4, b5, b6, b7, b8, Nat.reduceAdd, Nat.reduceEqDiff, Nat.reduceMul, reduceIte, reduceCtorEq, h9, h10, h2, h3, h4, h5, h6, h7, h8, c2, decide_eq_false c3, decide_eq_false c4, decide_eq_false c5, decide_eq_true c6, ti26 ax, ti27 ax, ti29 ax, encA]
            with_reducible rfl
          · exact ⟨(by have q := Call0.call ((sl_right_ok ax hx k n f_ from_ to_ rright e1 ).call (stL [.cells true 3 [lNodes n.nodes, lLinks n.links, lEdges n.edges], .cells true 2 [ints f_.links, .int .i64 f_.node]])); (try simp only [c2] at q); exact q), trivial⟩
          simp only [onT, onTB]

          cases H1
          refine ⟨_, rfl, by simp only [lzA] <;> omega, ?_, ?_, ?_⟩
          · simp only [ids2A, ids2B, ids2C, reduceIte, Nat.reduceEqDiff, Nat.reduceAdd, Nat.reduceLT, Nat.reduceLeDiff, idsA, idsB, h2, h3, h4, h5, h6, h7, h8, h9, h10]
          · simp only [ids2A, ids2B, ids2C, reduceIte, Nat.reduceEqDiff, Nat.reduceAdd, Nat.reduceLT, Nat.reduceLeDiff, idsA, idsB, h2, h3, h4, h5, h6, h7, h8, h9, h10]
          · exact ⟨(keepT_at (by decide)).trans h2, (keepT_at (by decide)).trans h3, (keepT_at (by decide)).trans h4, (keepT_at (by decide)).trans h5, (keepT_at (by decide)).trans h6, (keepT_at (by decide)).trans h7, (keepT_at (by decide)).trans h8, (keepT_at (by decide)).trans h9, (keepT_at (by decide)).trans h10, (keepT_at (by decide)).trans rfl, (by first | rfl | trivial)⟩
        rw [if_pos c5] at H1
        repeat apply TW.seq
        apply TW.region (envs_ok ax) [] [(.bool rright, stL [.cells true 3 [lNodes n.nodes, lLinks n.links, lEdges n.edges], .cells true 2 [ints f_.links, .int .i64 f_.node]])]
        · kernel_rfl
        · simp (maxSteps := 900000) (disch := first | omega | decide | (simp only [lzA, Nat.reduceAdd, Nat.reduceLT]; done) | fail) only [b0, b1, b2, b3, b4, b5, b6, b7, b8, Nat.reduceAdd, Nat.reduceEqDiff, Nat.reduceMul, reduceIte, reduceCtorEq, h9, h10, h2, h3, h4, h5, h6, h7, h8, c2, decide_eq_false c3, decide_eq_false c4, decide_eq_true c5, ti26 ax, ti27 ax, ti29 ax, encA]
          with_reducible rfl
        · exact ⟨(by have q := Call0.call ((sl_right_ok ax hx k n f_ from_ to_ rright e1 ).call (stL [.cells true 3 [lNodes n.nodes, lLinks n.links, lEdges n.edges], .cells true 2 [ints f_.links, .int .i64 f_.node]])); (try simp only [c2] at q); exact q), trivial⟩
        simp only [onT, onTB]

        cases H1
        refine ⟨_, rfl, by simp only [lzA] <;> omega, ?_, ?_, ?_⟩
        · simp only [ids2A, ids2B, ids2C, reduceIte, Nat.reduceEqDiff, Nat.reduceAdd, Nat.reduceLT, Nat.reduceLeDiff, idsA, idsB, h2, h3, h4, h5, h6, h7, h8, h9, h10]
        · simp only [ids2A, ids2B, ids2C, reduceIte, Nat.reduceEqDiff, Nat.reduceAdd, Nat.reduceLT, Nat.reduceLeDiff, idsA, idsB, h2, h3, h4, h5, h6, h7, h8, h9, h10]
        · exact ⟨(keepT_at (by decide)).trans h2, (keepT_at (by decide)).trans h3, (keepT_at (by decide)).trans h4, (keepT_at (by decide)).trans h5, (keepT_at (by decide)).trans h6, (keepT_at (by decide)).trans h7, (keepT_at (by decide)).trans h8, (keepT_at (by decide)).trans h9, (keepT_at (by decide)).trans h10, (keepT_at (by decide)).trans rfl, (by first | rfl | trivial)⟩
      rw [if_pos c4] at H1
      repeat apply TW.seq
      apply TW.region (envs_ok ax) [] [(.bool rright, stL [.cells true 3 [lNodes n.nodes, lLinks n.links, lEdges n.edges], .cells true 2 [ints f_.links, .int .i64 f_.node]])]
      · kernel_rfl
      · simp (maxSteps := 900000) (disch := first | omega | decide | (simp only [lzA, Nat.reduceAdd, Nat.reduceLT]; done) | fail) only [b0, b1, b2, b3, b4, b5, b6, b7, b8, Nat.reduceAdd, Nat.reduceEqDiff, Nat.reduceMul, reduceIte, reduceCtorEq, h9, h10, h2, h3, h4, h5, h6, h7, h8, c2, decide_eq_false c3, decide_eq_true c4, ti26 ax, ti27 ax, ti29 ax, encA]
        with_reducible rfl
      · exact ⟨(by have q := Call0.call ((sl_right_ok ax hx k n f_ from_ to_ rright e1 ).call (stL [.cells true 3 [lNodes n.nodes, lLinks n.links, lEdges n.edges], .cells true 2 [ints f_.links, .int .i64 f_.node]])); (try simp only [c2] at q); exact q), trivial⟩
      simp only [onT, onTB]

      cases H1
      refine ⟨_, rfl, by simp only [lzA] <;> omega, ?_, ?_, ?_⟩
      · simp only [ids2A, ids2B, ids2C, reduceIte, Nat.reduceEqDiff, Nat.reduceAdd, Nat.reduceLT, Nat.reduceLeDiff, idsA, idsB, h2, h3, h4, h5, h6, h7, h8, h9, h10]
      · simp only [ids2A, ids2B, ids2C, reduceIte, Nat.reduceEqDiff, Nat.reduceAdd, Nat.reduceLT, Nat.reduceLeDiff, idsA, idsB, h2, h3, h4, h5, h6, h7, h8, h9, h10]
      · exact ⟨(keepT_at (by decide)).trans h2, (keepT_at (by decide)).trans h3, (keepT_at (by decide)).trans h4, (keepT_at (by decide)).trans h5, (keepT_at (by decide)).trans h6, (keepT_at (by decide)).trans h7, (keepT_at (by decide)).trans h8, (keepT_at (by decide)).trans h9, (keepT_at (by decide)).trans h10, (keepT_at (by decide)).trans rfl, (by first | rfl | trivial)⟩
    rw [if_pos c3] at H1
    repeat apply TW.seq
    apply TW.region (envs_ok ax) [] [(.bool rright, stL [.cells true 3 [lNodes n.nodes, lLinks n.links, lEdges n.edges], .cells true 2 [ints f_.links, .int .i64 f_.node]])]
    · kernel_rfl
    · simp (maxSteps := 900000) (disch := first | omega | decide | (simp only [lzA, Nat.reduceAdd, Nat.reduceLT]; done) | fail) only [b0, b1, b2, b3, b4, b5, b6, b7, b8, Nat.reduceAdd, Nat.reduceEqDiff, Nat.reduceMul, reduceIte, reduceCtorEq, h9, h10, h2, h3, h4, h5, h6, h7, h8, c2, decide_eq_true c3, ti26 ax, ti27 ax, ti29 ax, encA]
      with_reducible rfl
    · exact ⟨(by have q := Call0.call ((sl_right_ok ax hx k n f_ from_ to_ rright e1 ).call (stL [.cells true 3 [lNodes n.nodes, lLinks n.links, lEdges n.edges], .cells true 2 [ints f_.links, .int .i64 f_.node]])); (try simp only [c2] at q); exact q), trivial⟩
    simp only [onT, onTB]

    cases H1
    refine ⟨_, rfl, by simp only [lzA] <;> omega, ?_, ?_, ?_⟩
    · simp only [ids2A, ids2B, ids2C, reduceIte, Nat.reduceEqDiff, Nat.reduceAdd, Nat.reduceLT, Nat.reduceLeDiff, idsA, idsB, h2, h3, h4, h5, h6, h7, h8, h9, h10]
    · simp only [ids2A, ids2B, ids2C, reduceIte, Nat.reduceEqDiff, Nat.reduceAdd, Nat.reduceLT, Nat.reduceLeDiff, idsA, idsB, h2, h3, h4, h5, h6, h7, h8, h9, h10]
    · exact ⟨(keepT_at (by decide)).trans h2, (keepT_at (by decide)).trans h3, (keepT_at (by decide)).trans h4, (keepT_at (by decide)).trans h5, (keepT_at (by decide)).trans h6, (keepT_at (by decide)).trans h7, (keepT_at (by decide)).trans h8, (keepT_at (by decide)).trans h9, (keepT_at (by decide)).trans h10, (keepT_at (by decide)).trans rfl, (by first | rfl | trivial)⟩
  clear h2 h3 h4 h5 h6 h7 h8 h9 h10 h
  rintro h bs ⟨h2, h3, h4, h5, h6, h7, h8, h9, h10, h53, rfl⟩
  simp only [onT, onTB]
  by_cases c7 : s_ = true
  case neg =>
    rw [if_neg c7] at H
    have c7f := (Bool.not_eq_true _).mp c7
    repeat apply TW.seq
    refine TW.cond (b := false) ?_ ?_
    · simp only [eT_tmp, eT_const, kT_bool, h53, c7f, Bool.not_true, Bool.not_false]
    simp only [cond_true, cond_false]
    repeat apply TW.seq
    apply TW.skip
    simp only [onT, onTB]
    obtain ⟨rCheck, e8, H⟩ := bsome H
    repeat apply TW.seq
    apply TW.region (envs_ok ax) [] [(.tup [.int .i64 rCheck.1, .bool rCheck.2], stL [.cells true 3 [lNodes n.nodes, lLinks n.links, lEdges n.edges], .cells true 2 [ints f_.links, .int .i64 f_.node]])]
    · kernel_rfl
    · simp (disch := first | omega | decide | (simp only [lzA, Nat.reduceAdd, Nat.reduceLT]; done) | fail) only [b0, b1, b2, b3, b4, b5, b6, b7, b8, Nat.reduceAdd, Nat.reduceEqDiff, Nat.reduceMul, reduceIte, reduceCtorEq, h9, h10, h2, h3, h4, c7f, ti26 ax, ti29 ax, encA]
      with_reducible rfl
    · exact ⟨(by have q := Call0.call ((sflow_Check_ok ax hx k n f_ from_ to_ x rCheck e8 ).call (stL [.cells true 3 [lNodes n.nodes, lLinks n.links, lEdges n.edges], .cells true 2 [ints f_.links, .int .i64 f_.node]])); (try simp only [c7f] at q); exact q), trivial⟩
    simp only [onT, onTB]
    refine TW.gen (bs := [.cells true 3 [lNodes n.nodes, lLinks n.links, lEdges n.edges], .cells true 2 [ints f_.links, .int .i64 f_.node]]) (fun h => h 2 = .int .i64 from_ ∧ h 3 = .int .i64 to_ ∧ h 4 = ints x ∧ h 5 = ints cut ∧ h 6 = ints prices ∧ h 7 = ints pot ∧ h 8 = ints other ∧ h 9 = .ptr 0 0 3 ∧ h 10 = .ptr 1 0 2 ∧ h 19 = .int .i64 rCheck.1 ∧ h 20 = .bool rCheck.2) ?_ ?_ ?_
    · rfl
    · exact ⟨h2, h3, h4, h5, h6, h7, h8, h9, h10, rfl, rfl⟩
    clear h2 h3 h4 h5 h6 h7 h8 h9 h10 h53 h
    rintro h ⟨h2, h3, h4, h5, h6, h7, h8, h9, h10, h19, h20⟩
    obtain ⟨rCheck2, e9, H⟩ := bsome H
    repeat apply TW.seq
    apply TW.region (envs_ok ax) [] [(.tup [.int .i64 rCheck2.1, .bool rCheck2.2], stL [.cells true 3 [lNodes n.nodes, lLinks n.links, lEdges n.edges], .cells true 2 [ints f_.links, .int .i64 f_.node]])]
    · kernel_rfl
    · simp (disch := first | omega | decide | (simp only [lzA, Nat.reduceAdd, Nat.reduceLT]; done) | fail) only [b0, b1, b2, b3, b4, b5, b6, b7, b8, Nat.reduceAdd, Nat.reduceEqDiff, Nat.reduceMul, reduceIte, reduceCtorEq, h9, h10, h2, h3, h8, c7f, ti26 ax, ti29 ax, encA]
      with_reducible rfl
    · exact ⟨(by have q := Call0.call ((sflow_Check_ok ax hx k n f_ from_ to_ other rCheck2 e9 ).call (stL [.cells true 3 [lNodes n.nodes, lLinks n.links, lEdges n.edges], .cells true 2 [ints f_.links, .int .i64 f_.node]])); (try simp only [c7f] at q); exact q), trivial⟩
    simp only [onT, onTB]
    refine TW.gen (bs := [.cells true 3 [lNodes n.nodes, lLinks n.links, lEdges n.edges], .cells true 2 [ints f_.links, .int .i64 f_.node]]) (fun h => h 2 = .int .i64 from_ ∧ h 3 = .int .i64 to_ ∧ h 4 = ints x ∧ h 5 = ints cut ∧ h 6 = ints prices ∧ h 7 = ints pot ∧ h 8 = ints other ∧ h 9 = .ptr 0 0 3 ∧ h 10 = .ptr 1 0 2 ∧ h 19 = .int .i64 rCheck.1 ∧ h 20 = .bool rCheck.2 ∧ h 21 = .int .i64 rCheck2.1 ∧ h 22 = .bool rCheck2.2) ?_ ?_ ?_
    · rfl
    · exact ⟨h2, h3, h4, h5, h6, h7, h8, h9, h10, h19, h20, rfl, rfl⟩
    clear h2 h3 h4 h5 h6 h7 h8 h9 h10 h19 h20 h
    rintro h ⟨h2, h3, h4, h5, h6, h7, h8, h9, h10, h19, h20, h21, h22⟩
    obtain ⟨s_2, H1, H⟩ := bsome H
    repeat apply TW.seq
    refine TW.cutN [2, 3, 4, 5, 6, 7, 8, 9, 10, 19, 21, 78] 2 (by simp only [lzA] <;> omega) (fun h bs => h 2 = .int .i64 from_ ∧ h 3 = .int .i64 to_ ∧ h 4 = ints x ∧ h 5 = ints cut ∧ h 6 = ints prices ∧ h 7 = ints pot ∧ h 8 = ints other ∧ h 9 = .ptr 0 0 3 ∧ h 10 = .ptr 1 0 2 ∧ h 19 = .int .i64 rCheck.1 ∧ h 21 = .int .i64 rCheck2.1 ∧ h 78 = .bool s_2 ∧ bs = [.cells true 3 [lNodes n.nodes, lLinks n.links, lEdges n.edges], .cells true 2 [ints f_.links, .int .i64 f_.node]]) ?_ ?_
    · skip
      by_cases c10 : rCheck.2 = true
      case neg =>
        rw [if_neg c10] at H1
        have c10f := (Bool.not_eq_true _).mp c10
        repeat apply TW.seq
        apply TW.region (envs_ok ax) [] []
        · kernel_rfl
        · simp (disch := first | omega | decide | (simp only [lzA, Nat.reduceAdd, Nat.reduceLT]; done) | fail) only [b0, b1, b2, b3, b4, b5, b6, b7, b8, Nat.reduceAdd, Nat.reduceEqDiff, Nat.reduceMul, reduceIte, reduceCtorEq, h20, h22, c7f, c10f, encA]
          with_reducible rfl
        · exact trivial
        simp only [onT, onTB]

        cases H1
        refine ⟨_, rfl, by simp only [lzA] <;> omega, ?_, ?_, ?_⟩
        · simp only [ids2A, ids2B, ids2C, reduceIte, Nat.reduceEqDiff, Nat.reduceAdd, Nat.reduceLT, Nat.reduceLeDiff, idsA, idsB, h2, h3, h4, h5, h6, h7, h8, h9, h10, h19, h20, h21, h22]
        · simp only [ids2A, ids2B, ids2C, reduceIte, Nat.reduceEqDiff, Nat.reduceAdd, Nat.reduceLT, Nat.reduceLeDiff, idsA, idsB, h2, h3, h4, h5, h6, h7, h8, h9, h10, h19, h20, h21, h22]
        · exact ⟨(keepT_at (by decide)).trans h2, (keepT_at (by decide)).trans h3, (keepT_at (by decide)).trans h4, (keepT_at (by decide)).trans h5, (keepT_at (by decide)).trans h6, (keepT_at (by decide)).trans h7, (keepT_at (by decide)).trans h8, (keepT_at (by decide)).trans h9, (keepT_at (by decide)).trans h10, (keepT_at (by decide)).trans h19, (keepT_at (by decide)).trans h21, (keepT_at (by decide)).trans rfl, (by first | rfl | trivial)⟩
      rw [if_pos c10] at H1
      repeat apply TW.seq
      apply TW.region (envs_ok ax) [] []
      · kernel_rfl
      · simp (disch := first | omega | decide | (simp only [lzA, Nat.reduceAdd, Nat.reduceLT]; done) | fail) only [b0, b1, b2, b3, b4, b5, b6, b7, b8, Nat.reduceAdd, Nat.reduceEqDiff, Nat.reduceMul, reduceIte, reduceCtorEq, h20, h22, c7f, c10, encA]
        with_reducible rfl
      · exact trivial
      simp only [onT, onTB]

      cases H1
      refine ⟨_, rfl, by simp only [lzA] <;> omega, ?_, ?_, ?_⟩
      · simp only [ids2A, ids2B, ids2C, reduceIte, Nat.reduceEqDiff, Nat.reduceAdd, Nat.reduceLT, Nat.reduceLeDiff, idsA, idsB, h2, h3, h4, h5, h6, h7, h8, h9, h10, h19, h20, h21, h22]
      · simp only [ids2A, ids2B, ids2C, reduceIte, Nat.reduceEqDiff, Nat.reduceAdd, Nat.reduceLT, Nat.reduceLeDiff, idsA, idsB, h2, h3, h4, h5, h6, h7, h8, h9, h10, h19, h20, h21, h22]
      · exact ⟨(keepT_at (by decide)).trans h2, (keepT_at (by decide)).trans h3, (keepT_at (by decide)).trans h4, (keepT_at (by decide)).trans h5, (keepT_at (by decide)).trans h6, (keepT_at (by decide)).trans h7, (keepT_at (by decide)).trans h8, (keepT_at (by decide)).trans h9, (keepT_at (by decide)).trans h10, (keepT_at (by decide)).trans h19, (keepT_at (by decide)).trans h21, (keepT_at (by decide)).trans rfl, (by first | rfl | trivial)⟩
    clear h2 h3 h4 h5 h6 h7 h8 h9 h10 h19 h20 h21 h22 h
    rintro h bs ⟨h2, h3, h4, h5, h6, h7, h8, h9, h10, h19, h21, h78, rfl⟩
    simp only [onT, onTB]
    by_cases c11 : s_2 = true
    case neg =>
      rw [if_neg c11] at H
      have c11f := (Bool.not_eq_true _).mp c11
      repeat apply TW.seq
      refine TW.cond (b := false) ?_ ?_
      · simp only [eT_tmp, eT_const, kT_bool, h78, c7f, c11f, Bool.not_true, Bool.not_false]
      simp only [cond_true, cond_false]
      repeat apply TW.seq
      apply TW.skip
      simp only [onT, onTB]
      obtain ⟨s_3, H1, H⟩ := bsome H
      repeat apply TW.seq
      refine TW.cutN [2, 3, 4, 6, 7, 8, 9, 10, 19, 21, 91] 2 (by simp only [lzA] <;> omega) (fun h bs => h 2 = .int .i64 from_ ∧ h 3 = .int .i64 to_ ∧ h 4 = ints x ∧ h 6 = ints prices ∧ h 7 = ints pot ∧ h 8 = ints other ∧ h 9 = .ptr 0 0 3 ∧ h 10 = .ptr 1 0 2 ∧ h 19 = .int .i64 rCheck.1 ∧ h 21 = .int .i64 rCheck2.1 ∧ h 91 = .bool s_3 ∧ bs = [.cells true 3 [lNodes n.nodes, lLinks n.links, lEdges n.edges], .cells true 2 [ints f_.links, .int .i64 f_.node]]) ?_ ?_
      · skip
        obtain ⟨rGreatest, e12, H1⟩ := bsome H1
        by_cases c13 : rGreatest = true
        case neg =>
          rw [if_neg c13] at H1
          have c13f := (Bool.not_eq_true _).mp c13
          repeat apply TW.seq
          apply TW.region (envs_ok ax) [] [(.bool rGreatest, stL [.cells true 3 [lNodes n.nodes, lLinks n.links, lEdges n.edges], .cells true 2 [ints f_.links, .int .i64 f_.node]])]
          · kernel_rfl
          · simp (disch := first | omega | decide | (simp only [lzA, Nat.reduceAdd, Nat.reduceLT]; done) | fail) only [b0, b1, b2, b3, b4, b5, b6, b7, b8, Nat.reduceAdd, Nat.reduceEqDiff, Nat.reduceMul, reduceIte, reduceCtorEq, h9, h10, h2, h3, h4, h5, h21, h19, c7f, c11f, c13f, ti26 ax, ti29 ax, encA]
            with_reducible rfl
          · exact ⟨(by have q := Call0.call ((sflow_Greatest_ok ax hx k n f_ from_ to_ x cut rGreatest e12 ).call (stL [.cells true 3 [lNodes n.nodes, lLinks n.links, lEdges n.edges], .cells true 2 [ints f_.links, .int .i64 f_.node]])); (try simp only [c7f, c11f, c13f] at q); exact q), trivial⟩
          simp only [onT, onTB]

          cases H1
          refine ⟨_, rfl, by simp only [lzA] <;> omega, ?_, ?_, ?_⟩
          · simp only [ids2A, ids2B, ids2C, reduceIte, Nat.reduceEqDiff, Nat.reduceAdd, Nat.reduceLT, Nat.reduceLeDiff, idsA, idsB, h2, h3, h4, h5, h6, h7, h8, h9, h10, h19, h21, h78]
          · simp only [ids2A, ids2B, ids2C, reduceIte, Nat.reduceEqDiff, Nat.reduceAdd, Nat.reduceLT, Nat.reduceLeDiff, idsA, idsB, h2, h3, h4, h5, h6, h7, h8, h9, h10, h19, h21, h78]
          · exact ⟨(keepT_at (by decide)).trans h2, (keepT_at (by decide)).trans h3, (keepT_at (by decide)).trans h4, (keepT_at (by decide)).trans h6, (keepT_at (by decide)).trans h7, (keepT_at (by decide)).trans h8, (keepT_at (by decide)).trans h9, (keepT_at (by decide)).trans h10, (keepT_at (by decide)).trans h19, (keepT_at (by decide)).trans h21, (keepT_at (by decide)).trans rfl, (by first | rfl | trivial)⟩
        rw [if_pos c13] at H1
        repeat apply TW.seq
        apply TW.region (envs_ok ax) [] [(.bool rGreatest, stL [.cells true 3 [lNodes n.nodes, lLinks n.links, lEdges n.edges], .cells true 2 [ints f_.links, .int .i64 f_.node]])]
        · kernel_rfl
        · simp (disch := first | omega | decide | (simp only [lzA, Nat.reduceAdd, Nat.reduceLT]; done) | fail) only [b0, b1, b2, b3, b4, b5, b6, b7, b8, Nat.reduceAdd, Nat.reduceEqDiff, Nat.reduceMul, reduceIte, reduceCtorEq, h9, h10, h2, h3, h4, h5, h21, h19, c7f, c11f, c13, ti26 ax, ti29 ax, encA]
          with_reducible rfl
        · exact ⟨(by have q := Call0.call ((sflow_Greatest_ok ax hx k n f_ from_ to_ x cut rGreatest e12 ).call (stL [.cells true 3 [lNodes n.nodes, lLinks n.links, lEdges n.edges], .cells true 2 [ints f_.links, .int .i64 f_.node]])); (try simp only [c7f, c11f, c13] at q); exact q), trivial⟩
        simp only [onT, onTB]

        cases H1
        refine ⟨_, rfl, by simp only [lzA] <;> omega, ?_, ?_, ?_⟩
        · simp only [ids2A, ids2B, ids2C, reduceIte, Nat.reduceEqDiff, Nat.reduceAdd, Nat.reduceLT, Nat.reduceLeDiff, idsA, idsB, h2, h3, h4, h5, h6, h7, h8, h9, h10, h19, h21, h78]
        · simp only [ids2A, ids2B, ids2C, reduceIte, Nat.reduceEqDiff, Nat.reduceAdd, Nat.reduceLT, Nat.reduceLeDiff, idsA, idsB, h2, h3, h4, h5, h6, h7, h8, h9, h10, h19, h21, h78]
        · exact ⟨(keepT_at (by decide)).trans h2, (keepT_at (by decide)).trans h3, (keepT_at (by decide)).trans h4, (keepT_at (by decide)).trans h6, (keepT_at (by decide)).trans h7, (keepT_at (by decide)).trans h8, (keepT_at (by decide)).trans h9, (keepT_at (by decide)).trans h10, (keepT_at (by decide)).trans h19, (keepT_at (by decide)).trans h21, (keepT_at (by decide)).trans rfl, (by first | rfl | trivial)⟩
      clear h2 h3 h4 h5 h6 h7 h8 h9 h10 h19 h21 h78 h
      rintro h bs ⟨h2, h3, h4, h6, h7, h8, h9, h10, h19, h21, h91, rfl⟩
      simp only [onT, onTB]
      by_cases c14 : s_3 = true
      case neg =>
        rw [if_neg c14] at H
        have c14f := (Bool.not_eq_true _).mp c14
        repeat apply TW.seq
        refine TW.cond (b := false) ?_ ?_
        · simp only [eT_tmp, eT_const, kT_bool, h91, c7f, c11f, c14f, Bool.not_true, Bool.not_false]
        simp only [cond_true, cond_false]
        repeat apply TW.seq
        apply TW.skip
        simp only [onT, onTB]
        by_cases c15 : rCheck.1 ≠ rCheck2.1
        case neg =>
          rw [if_neg c15] at H
          obtain ⟨rCheapest, e16, H⟩ := bsome H
          by_cases c17 : rCheapest = true
          case neg =>
            rw [if_neg c17] at H
            have c17f := (Bool.not_eq_true _).mp c17
            repeat apply TW.seq
            apply TW.region (envs_ok ax) [] [(.bool true, stL [.cells true 3 [lNodes n.nodes, lLinks n.links, lEdges n.edges], .cells true 2 [ints f_.links, .int .i64 f_.node]]), (.bool rCheapest, stL [.cells true 3 [lNodes n.nodes, lLinks n.links, lEdges n.edges], .cells true 2 [ints f_.links, .int .i64 f_.node]])]
            · kernel_rfl
            · simp (maxSteps := 900000) (disch := first | omega | decide | (simp only [lzA, Nat.reduceAdd, Nat.reduceLT]; done) | fail) only [b0, b1, b2, b3, b4, b5, b6, b7, b8, Nat.reduceAdd, Nat.reduceEqDiff, Nat.reduceMul, reduceIte, reduceCtorEq, h19, h21, h9, h10, h6, h2, h3, h4, h7, h8, c7f, c11f, c14f, decide_eq_false c15, c17f, ti26 ax, ti29 ax, encA]
              with_reducible rfl
            · exact ⟨(by have q := Call0.call (hx.san.call (stL [.cells true 3 [lNodes n.nodes, lLinks n.links, lEdges n.edges], .cells true 2 [ints f_.links, .int .i64 f_.node]])); (try simp only [c7f, c11f, c14f, c17f] at q); exact q), (by have q := Call0.call ((sflow_Cheapest_ok ax hx k n f_ prices from_ to_ x pot rCheapest e16 ).call (stL [.cells true 3 [lNodes n.nodes, lLinks n.links, lEdges n.edges], .cells true 2 [ints f_.links, .int .i64 f_.node]])); (try simp only [c7f, c11f, c14f, c17f] at q); exact q), trivial⟩
            simp only [onT, onTB]
            refine TW.gen (bs := [.cells true 3 [lNodes n.nodes, lLinks n.links, lEdges n.edges], .cells true 2 [ints f_.links, .int .i64 f_.node]]) (fun h => h 18 = .bool true) ?_ ?_ ?_
            · rfl
            · exact rfl
            clear h2 h3 h4 h6 h7 h8 h9 h10 h19 h21 h91 h
            rintro h h18
            apply TW.ret
            cases H
            refine ⟨.inr rfl, ?_⟩
            first | (simp only [Try.results7, resT, h18]; done) | (simp only [Try.results7, resT, h18]; rfl)
          rw [if_pos c17] at H
          obtain ⟨rCost, e18, H⟩ := bsome H
          obtain ⟨rCost2, e19, H⟩ := bsome H
          repeat apply TW.seq
          apply TW.region (envs_ok ax) [] [(.bool true, stL [.cells true 3 [lNodes n.nodes, lLinks n.links, lEdges n.edges], .cells true 2 [ints f_.links, .int .i64 f_.node]]), (.bool rCheapest, stL [.cells true 3 [lNodes n.nodes, lLinks n.links, lEdges n.edges], .cells true 2 [ints f_.links, .int .i64 f_.node]]), (.int .i64 rCost, stL [.cells true 3 [lNodes n.nodes, lLinks n.links, lEdges n.edges], .cells true 2 [ints f_.links, .int .i64 f_.node]]), (.int .i64 rCost2, stL [.cells true 3 [lNodes n.nodes, lLinks n.links, lEdges n.edges], .cells true 2 [ints f_.links, .int .i64 f_.node]])]
          · kernel_rfl
          · simp (maxSteps := 900000) (disch := first | omega | decide | (simp only [lzA, Nat.reduceAdd, Nat.reduceLT]; done) | fail) only [b0, b1, b2, b3, b4, b5, b6, b7, b8, Nat.reduceAdd, Nat.reduceEqDiff, Nat.reduceMul, reduceIte, reduceCtorEq, h19, h21, h9, h10, h6, h2, h3, h4, h7, h8, c7f, c11f, c14f, decide_eq_false c15, c17, ti26 ax, ti29 ax, encA]
            with_reducible rfl
          · exact ⟨(by have q := Call0.call (hx.san.call (stL [.cells true 3 [lNodes n.nodes, lLinks n.links, lEdges n.edges], .cells true 2 [ints f_.links, .int .i64 f_.node]])); (try simp only [c7f, c11f, c14f, c17] at q); exact q), (by have q := Call0.call ((sflow_Cheapest_ok ax hx k n f_ prices from_ to_ x pot rCheapest e16 ).call (stL [.cells true 3 [lNodes n.nodes, lLinks n.links, lEdges n.edges], .cells true 2 [ints f_.links, .int .i64 f_.node]])); (try simp only [c7f, c11f, c14f, c17] at q); exact q), (by have q := Call0.call ((sflow_Cost_ok ax hx k prices x rCost e18 ).call (stL [.cells true 3 [lNodes n.nodes, lLinks n.links, lEdges n.edges], .cells true 2 [ints f_.links, .int .i64 f_.node]])); (try simp only [c7f, c11f, c14f, c17] at q); exact q), (by have q := Call0.call ((sflow_Cost_ok ax hx k prices other rCost2 e19 ).call (stL [.cells true 3 [lNodes n.nodes, lLinks n.links, lEdges n.edges], .cells true 2 [ints f_.links, .int .i64 f_.node]])); (try simp only [c7f, c11f, c14f, c17] at q); exact q), trivial⟩
          simp only [onT, onTB]
          refine TW.gen (bs := [.cells true 3 [lNodes n.nodes, lLinks n.links, lEdges n.edges], .cells true 2 [ints f_.links, .int .i64 f_.node]]) (fun h => h 18 = .bool (decide (rCost ≤ rCost2))) ?_ ?_ ?_
          · rfl
          · exact rfl
          clear h2 h3 h4 h6 h7 h8 h9 h10 h19 h21 h91 h
          rintro h h18
          apply TW.ret
          cases H
          refine ⟨.inr rfl, ?_⟩
          first | (simp only [Try.results7, resT, h18]; done) | (simp only [Try.results7, resT, h18]; rfl)
        rw [if_pos c15] at H
        repeat apply TW.seq
        apply TW.region (envs_ok ax) [] [(.bool true, stL [.cells true 3 [lNodes n.nodes, lLinks n.links, lEdges n.edges], .cells true 2 [ints f_.links, .int .i64 f_.node]])]
        · kernel_rfl
        · simp (maxSteps := 900000) (disch := first | omega | decide | (simp only [lzA, Nat.reduceAdd, Nat.reduceLT]; done) | fail) only [b0, b1, b2, b3, b4, b5, b6, b7, b8, Nat.reduceAdd, Nat.reduceEqDiff, Nat.reduceMul, reduceIte, reduceCtorEq, h19, h21, h9, h10, h6, h2, h3, h4, h7, h8, c7f, c11f, c14f, decide_eq_true c15, encA]
          with_reducible rfl
        · exact ⟨(by have q := Call0.call (hx.san.call (stL [.cells true 3 [lNodes n.nodes, lLinks n.links, lEdges n.edges], .cells true 2 [ints f_.links, .int .i64 f_.node]])); (try simp only [c7f, c11f, c14f] at q); exact q), trivial⟩
        simp only [onT, onTB]
        refine TW.gen (bs := [.cells true 3 [lNodes n.nodes, lLinks n.links, lEdges n.edges], .cells true 2 [ints f_.links, .int .i64 f_.node]]) (fun h => h 18 = .bool true) ?_ ?_ ?_
        · rfl
        · exact rfl
        clear h2 h3 h4 h6 h7 h8 h9 h10 h19 h21 h91 h
        rintro h h18
        apply TW.ret
        cases H
        refine ⟨.inr rfl, ?_⟩
        first | (simp only [Try.results7, resT, h18]; done) | (simp only [Try.results7, resT, h18]; rfl)
      rw [if_pos c14] at H
      repeat apply TW.seq
      refine TW.cond (b := true) ?_ ?_
      · simp only [eT_tmp, eT_const, kT_bool, h91, c7f, c11f, c14, Bool.not_true, Bool.not_false]
      simp only [cond_true, cond_false]
      repeat apply TW.seq
      apply TW.region (envs_ok ax) [] []
      · kernel_rfl
      · simp (disch := first | omega | decide | (simp only [lzA, Nat.reduceAdd, Nat.reduceLT]; done) | fail) only [b0, b1, b2, b3, b4, b5, b6, b7, b8, Nat.reduceAdd, Nat.reduceEqDiff, Nat.reduceMul, reduceIte, reduceCtorEq, c7f, c11f, c14, encA]
        with_reducible rfl
      · exact trivial
      simp only [onT, onTB]
      refine TW.gen (bs := [.cells true 3 [lNodes n.nodes, lLinks n.links, lEdges n.edges], .cells true 2 [ints f_.links, .int .i64 f_.node]]) (fun h => h 18 = .bool false) ?_ ?_ ?_
      · rfl
      · exact rfl
      clear h2 h3 h4 h6 h7 h8 h9 h10 h19 h21 h91 h
      rintro h h18
      apply TW.ret
      cases H
      refine ⟨.inr rfl, ?_⟩
      first | (simp only [Try.results7, resT, h18]; done) | (simp only [Try.results7, resT, h18]; rfl)
    rw [if_pos c11] at H
    repeat apply TW.seq
    refine TW.cond (b := true) ?_ ?_
    · simp only [eT_tmp, eT_const, kT_bool, h78, c7f, c11, Bool.not_true, Bool.not_false]
    simp only [cond_true, cond_false]
    repeat apply TW.seq
    apply TW.region (envs_ok ax) [] [(.bool true, stL [.cells true 3 [lNodes n.nodes, lLinks n.links, lEdges n.edges], .cells true 2 [ints f_.links, .int .i64 f_.node]])]
    · kernel_rfl
    · simp (disch := first | omega | decide | (simp only [lzA, Nat.reduceAdd, Nat.reduceLT]; done) | fail) only [b0, b1, b2, b3, b4, b5, b6, b7, b8, Nat.reduceAdd, Nat.reduceEqDiff, Nat.reduceMul, reduceIte, reduceCtorEq, c7f, c11, encA]
      with_reducible rfl
    · exact ⟨(by have q := Call0.call (hx.san.call (stL [.cells true 3 [lNodes n.nodes, lLinks n.links, lEdges n.edges], .cells true 2 [ints f_.links, .int .i64 f_.node]])); (try simp only [c7f, c11] at q); exact q), trivial⟩
    simp only [onT, onTB]
    refine TW.gen (bs := [.cells true 3 [lNodes n.nodes, lLinks n.links, lEdges n.edges], .cells true 2 [ints f_.links, .int .i64 f_.node]]) (fun h => h 18 = .bool true) ?_ ?_ ?_
    · rfl
    · exact rfl
    clear h2 h3 h4 h5 h6 h7 h8 h9 h10 h19 h21 h78 h
    rintro h h18
    apply TW.ret
    cases H
    refine ⟨.inr rfl, ?_⟩
    first | (simp only [Try.results7, resT, h18]; done) | (simp only [Try.results7, resT, h18]; rfl)
  rw [if_pos c7] at H
  repeat apply TW.seq
  refine TW.cond (b := true) ?_ ?_
  · simp only [eT_tmp, eT_const, kT_bool, h53, c7, Bool.not_true, Bool.not_false]
  simp only [cond_true, cond_false]
  repeat apply TW.seq
  apply TW.region (envs_ok ax) [] [(.bool true, stL [.cells true 3 [lNodes n.nodes, lLinks n.links, lEdges n.edges], .cells true 2 [ints f_.links, .int .i64 f_.node]])]
  · kernel_rfl
  · simp (disch := first | omega | decide | (simp only [lzA, Nat.reduceAdd, Nat.reduceLT]; done) | fail) only [b0, b1, b2, b3, b4, b5, b6, b7, b8, Nat.reduceAdd, Nat.reduceEqDiff, Nat.reduceMul, reduceIte, reduceCtorEq, c7, encA]
    with_reducible rfl
  · exact ⟨(by have q := Call0.call (hx.san.call (stL [.cells true 3 [lNodes n.nodes, lLinks n.links, lEdges n.edges], .cells true 2 [ints f_.links, .int .i64 f_.node]])); (try simp only [c7] at q); exact q), trivial⟩
  simp only [onT, onTB]
  refine TW.gen (bs := [.cells true 3 [lNodes n.nodes, lLinks n.links, lEdges n.edges], .cells true 2 [ints f_.links, .int .i64 f_.node]]) (fun h => h 18 = .bool true) ?_ ?_ ?_
  · rfl
  · exact rfl
  clear h2 h3 h4 h5 h6 h7 h8 h9 h10 h53 h
  rintro h h18
  apply TW.ret
  cases H
  refine ⟨.inr rfl, ?_⟩
  first | (simp only [Try.results7, resT, h18]; done) | (simp only [Try.results7, resT, h18]; rfl)
end Go.Proofs.Ytfalnphlgfoflaa