/- Functions as plain functions, and that the code computes them. -/
import Derived.Test.YtfalnphlgfoflaaSE
import Derived.Test.YtfalnphlgfoflaaSF
namespace Go.Proofs.Ytfalnphlgfoflaa
open Go Go.RowKit
set_option linter.unusedSimpArgs false
set_option linter.unusedVariables false
set_option linter.unusedSectionVars false
set_option maxRecDepth 100000
def sl_FlowMaxIsGreatest_L0 (k : Nat) (cut : List Int) : Nat → Int → (List (Int × Bool)) → Option (List (Int × Bool))
 | 0, _, _ => none
 | m + 1, i, mp => (if i < (cut.length : Int) then (if (0 : Int) ≤ i ∧ i < (cut.length : Int) then sl_FlowMaxIsGreatest_L0 k cut m (IntKind.i64.wrap (i + 1)) (mset (gx cut i) true mp) else none) else some mp)
def sl_FlowMaxIsGreatest_L1 (k : Nat) (rMax : List Int × List Int × Int) (s_5 : (List (Int × Bool))) : Nat → Int → Option (Bool ⊕ Unit)
 | 0, _ => none
 | m + 1, i2 => (if i2 < (rMax.2.1.length : Int) then (if (0 : Int) ≤ i2 ∧ i2 < (rMax.2.1.length : Int) then (if ((mget (gx rMax.2.1 i2) s_5).getD false) = true then sl_FlowMaxIsGreatest_L1 k rMax s_5 m (IntKind.i64.wrap (i2 + 1)) else some (.inl false)) else none) else some (.inr ()))
def sl_FlowMaxIsGreatest (k : Nat) (n : Net) (f_ : Failure) (from_ : Int) (to_ : Int) (x : List Int) (cut : List Int) : Option Bool := ((((sl_right k n f_ 0 0).bind fun rright => (if rright = true then (if 40 < (x.length : Int) then some true else some (decide (40 < (cut.length : Int)))) else some true)) : Option Bool).bind fun s_ => (if s_ = true then some true else ((sflow_Max k n f_ from_ to_).bind fun rMax => ((sr22_Max k n f_ from_ to_).bind fun rMax2 => (((if rMax.2.2 ≠ rMax2.2.2 then some true else ((sr09_SameInts k rMax.2.1 rMax2.2.1).bind fun rSameInts => some (!rSameInts))) : Option Bool).bind fun s_2 => (if s_2 = true then some false else (if rMax.2.2 ≠ 0 then some (decide ((rMax.1.length : Int) = 0)) else ((sflow_Check k n f_ from_ to_ rMax.1).bind fun rCheck => (((if rCheck.2 = true then ((sflow_Greatest k n f_ from_ to_ rMax.1 rMax.2.1).bind fun rGreatest => some (!rGreatest)) else some true) : Option Bool).bind fun s_3 => (if s_3 = true then some false else ((sflow_Check k n f_ from_ to_ x).bind fun rCheck2 => (((if rCheck2.2 = true then some (decide (rCheck.1 < rCheck2.1)) else some false) : Option Bool).bind fun s_4 => (if s_4 = true then some false else ((sflow_Greatest k n f_ from_ to_ rMax.1 cut).bind fun rGreatest2 => (if rGreatest2 = true then ((sl_FlowMaxIsGreatest_L0 k cut k 0 ([] : List (Int × Bool)) : Option (List (Int × Bool))).bind fun s_5 => ((sl_FlowMaxIsGreatest_L1 k rMax s_5 k 0 : Option (Bool ⊕ Unit)).bind fun o => Sum.elim (fun r => some r) (fun s_6 => some true) o)) else some true)))))))))))))))
set_option maxHeartbeats 8000000 in
theorem sl_FlowMaxIsGreatest_ok (ax : Axs) (hx : Plain ax) (k : Nat) (n : Net) (f_ : Failure) (from_ : Int) (to_ : Int) (x : List Int) (cut : List Int) (v : Bool) (H : sl_FlowMaxIsGreatest k n f_ from_ to_ x cut = some v) : Pure Try.prog (EE ax) [] 4 [eNet n, eFail f_, .int .i64 from_, .int .i64 to_, ints x, ints cut] (.bool v) := by
 rw [sl_FlowMaxIsGreatest] at H
 refine en [.tmp 12] 145 [0, 1, 2, 3, 4, 5] (hx.no _ (by decide)) (fn4 ax) ?_
 intro h hh
 repeat apply TW.seq
 refine rk [2, 3, 4, 5, 6, 7] [] hh ?_
 clear hh h
 intro h hh
 obtain ⟨s_, H1, H⟩ := bsome H
 repeat apply TW.seq
 refine cu [2, 3, 4, 5, 6, 7, 41] 2 (fun h bs => (h 2 = .int .i64 from_ ∧ h 3 = .int .i64 to_ ∧ h 4 = ints x ∧ h 5 = ints cut ∧ h 6 = .ptr 0 0 3 ∧ h 7 = .ptr 1 0 2 ∧ h 41 = .bool s_) ∧ bs = [.cells true 3 [lNodes n.nodes, lLinks n.links, lEdges n.edges], .cells true 2 [ints f_.links, .int .i64 f_.node]]) ?_ ?_
 ·skip
  obtain ⟨rright, e1, H1⟩ := bsome H1
  rcases isb H1 with ⟨c2, H1⟩ | ⟨c2, H1⟩
  rotate_left
  ·skip
   repeat apply TW.seq
   refine rkc [2, 3, 4, 5, 6, 7, 41] [] [(.bool rright, stL [.cells true 3 [lNodes n.nodes, lLinks n.links, lEdges n.edges], .cells true 2 [ints f_.links, .int .i64 f_.node]])] (f2 hh c2) ?_ ?_
   ·exact ⟨Call0.call (Pure.clr (sl_right_ok ax hx k n f_ 0 0 rright e1 ) (by first | rfl | simp only [c2])), trivial⟩
   clear hh h
   intro h hh
   cases H1
   exact ce hh ⟨kq hh, rfl⟩
  rcases isp H1 with ⟨c3, H1⟩ | ⟨c3, H1⟩
  rotate_left
  ·skip
   repeat apply TW.seq
   refine rkc [2, 3, 4, 5, 6, 7, 41] [] [(.bool rright, stL [.cells true 3 [lNodes n.nodes, lLinks n.links, lEdges n.edges], .cells true 2 [ints f_.links, .int .i64 f_.node]])] (f3 hh c2 (decide_eq_false c3)) ?_ ?_
   ·exact ⟨Call0.call (Pure.clr (sl_right_ok ax hx k n f_ 0 0 rright e1 ) (by first | rfl | simp only [c2])), trivial⟩
   clear hh h
   intro h hh
   cases H1
   exact ce hh ⟨kq hh, rfl⟩
  repeat apply TW.seq
  refine rkc [2, 3, 4, 5, 6, 7, 41] [] [(.bool rright, stL [.cells true 3 [lNodes n.nodes, lLinks n.links, lEdges n.edges], .cells true 2 [ints f_.links, .int .i64 f_.node]])] (f3 hh c2 (decide_eq_true c3)) ?_ ?_
  ·exact ⟨Call0.call (Pure.clr (sl_right_ok ax hx k n f_ 0 0 rright e1 ) (by first | rfl | simp only [c2])), trivial⟩
  clear hh h
  intro h hh
  cases H1
  exact ce hh ⟨kq hh, rfl⟩
 clear hh h
 rintro h bs ⟨hh, rfl⟩
 rcases isb H with ⟨c4, H⟩ | ⟨c4, H⟩
 rotate_left
 ·skip
  repeat apply TW.seq
  refine cf (f2 hh c4) ?_
  repeat apply TW.seq
  refine sk ?_
  obtain ⟨rMax, e5, H⟩ := bsome H
  repeat apply TW.seq
  refine rkc [2, 3, 4, 5, 6, 7, 13, 14, 15] [] [(.tup [ints rMax.1, ints rMax.2.1, .int .i64 rMax.2.2], stL [.cells true 3 [lNodes n.nodes, lLinks n.links, lEdges n.edges], .cells true 2 [ints f_.links, .int .i64 f_.node]])] (f2 hh c4) ?_ ?_
  ·exact ⟨Call0.call (Pure.clr (sflow_Max_ok ax hx k n f_ from_ to_ rMax e5 ) (by first | rfl | simp only [c4])), trivial⟩
  clear hh h
  intro h hh
  obtain ⟨rMax2, e6, H⟩ := bsome H
  repeat apply TW.seq
  refine rkc [2, 3, 4, 5, 6, 7, 13, 14, 15, 17, 18] [] [(.tup [ints rMax2.1, ints rMax2.2.1, .int .i64 rMax2.2.2], stL [.cells true 3 [lNodes n.nodes, lLinks n.links, lEdges n.edges], .cells true 2 [ints f_.links, .int .i64 f_.node]])] (f2 hh c4) ?_ ?_
  ·exact ⟨Call0.call (Pure.clr (sr22_Max_ok ax hx k n f_ from_ to_ rMax2 e6 ) (by first | rfl | simp only [c4])), trivial⟩
  clear hh h
  intro h hh
  obtain ⟨s_2, H1, H⟩ := bsome H
  repeat apply TW.seq
  refine cu [2, 3, 4, 5, 6, 7, 13, 14, 15, 69] 2 (fun h bs => (h 2 = .int .i64 from_ ∧ h 3 = .int .i64 to_ ∧ h 4 = ints x ∧ h 5 = ints cut ∧ h 6 = .ptr 0 0 3 ∧ h 7 = .ptr 1 0 2 ∧ h 13 = ints rMax.1 ∧ h 14 = ints rMax.2.1 ∧ h 15 = .int .i64 rMax.2.2 ∧ h 69 = .bool s_2) ∧ bs = [.cells true 3 [lNodes n.nodes, lLinks n.links, lEdges n.edges], .cells true 2 [ints f_.links, .int .i64 f_.node]]) ?_ ?_
  ·skip
   rcases isp H1 with ⟨c7, H1⟩ | ⟨c7, H1⟩
   rotate_left
   ·skip
    obtain ⟨rSameInts, e8, H1⟩ := bsome H1
    repeat apply TW.seq
    refine rkc [2, 3, 4, 5, 6, 7, 13, 14, 15, 69] [] [(.bool rSameInts, stL [.cells true 3 [lNodes n.nodes, lLinks n.links, lEdges n.edges], .cells true 2 [ints f_.links, .int .i64 f_.node]])] (f3 hh (decide_eq_false c7) c4) ?_ ?_
    ·exact ⟨Call0.call (Pure.clr (sr09_SameInts_ok ax hx k rMax.2.1 rMax2.2.1 rSameInts e8 ) (by first | rfl | simp only [c4])), trivial⟩
    clear hh h
    intro h hh
    cases H1
    exact ce hh ⟨kq hh, rfl⟩
   repeat apply TW.seq
   refine rk [2, 3, 4, 5, 6, 7, 13, 14, 15, 69] [] (f3 hh (decide_eq_true c7) c4) ?_
   clear hh h
   intro h hh
   cases H1
   exact ce hh ⟨kq hh, rfl⟩
  clear hh h
  rintro h bs ⟨hh, rfl⟩
  rcases isb H with ⟨c9, H⟩ | ⟨c9, H⟩
  rotate_left
  ·skip
   repeat apply TW.seq
   refine cf (f2 hh c9) ?_
   repeat apply TW.seq
   refine sk ?_
   repeat apply TW.seq
   refine rk [2, 3, 4, 5, 6, 7, 13, 14, 71] [] (f3 hh c4 c9) ?_
   clear hh h
   intro h hh
   rcases isp H with ⟨c10, H⟩ | ⟨c10, H⟩
   rotate_left
   ·skip
    repeat apply TW.seq
    refine cf (f2 hh (decide_eq_false c10)) ?_
    repeat apply TW.seq
    refine sk ?_
    obtain ⟨rCheck, e11, H⟩ := bsome H
    repeat apply TW.seq
    refine rkc [2, 3, 4, 5, 6, 7, 13, 14, 19, 20] [] [(.tup [.int .i64 rCheck.1, .bool rCheck.2], stL [.cells true 3 [lNodes n.nodes, lLinks n.links, lEdges n.edges], .cells true 2 [ints f_.links, .int .i64 f_.node]])] (f3 hh c4 c9) ?_ ?_
    ·exact ⟨Call0.call (Pure.clr (sflow_Check_ok ax hx k n f_ from_ to_ rMax.1 rCheck e11 ) (by first | rfl | simp only [c4, c9])), trivial⟩
    clear hh h
    intro h hh
    obtain ⟨s_3, H1, H⟩ := bsome H
    repeat apply TW.seq
    refine cu [2, 3, 4, 5, 6, 7, 13, 14, 19, 98] 2 (fun h bs => (h 2 = .int .i64 from_ ∧ h 3 = .int .i64 to_ ∧ h 4 = ints x ∧ h 5 = ints cut ∧ h 6 = .ptr 0 0 3 ∧ h 7 = .ptr 1 0 2 ∧ h 13 = ints rMax.1 ∧ h 14 = ints rMax.2.1 ∧ h 19 = .int .i64 rCheck.1 ∧ h 98 = .bool s_3) ∧ bs = [.cells true 3 [lNodes n.nodes, lLinks n.links, lEdges n.edges], .cells true 2 [ints f_.links, .int .i64 f_.node]]) ?_ ?_
    ·skip
     rcases isb H1 with ⟨c12, H1⟩ | ⟨c12, H1⟩
     rotate_left
     ·skip
      repeat apply TW.seq
      refine rk [2, 3, 4, 5, 6, 7, 13, 14, 19, 98] [] (f3 hh c12 (f2 c4 c9)) ?_
      clear hh h
      intro h hh
      cases H1
      exact ce hh ⟨kq hh, rfl⟩
     obtain ⟨rGreatest, e13, H1⟩ := bsome H1
     repeat apply TW.seq
     refine rkc [2, 3, 4, 5, 6, 7, 13, 14, 19, 98] [] [(.bool rGreatest, stL [.cells true 3 [lNodes n.nodes, lLinks n.links, lEdges n.edges], .cells true 2 [ints f_.links, .int .i64 f_.node]])] (f3 hh c12 (f2 c4 c9)) ?_ ?_
     ·exact ⟨Call0.call (Pure.clr (sflow_Greatest_ok ax hx k n f_ from_ to_ rMax.1 rMax.2.1 rGreatest e13 ) (by first | rfl | simp only [c4, c9, c12])), trivial⟩
     clear hh h
     intro h hh
     cases H1
     exact ce hh ⟨kq hh, rfl⟩
    clear hh h
    rintro h bs ⟨hh, rfl⟩
    rcases isb H with ⟨c14, H⟩ | ⟨c14, H⟩
    rotate_left
    ·skip
     repeat apply TW.seq
     refine cf (f2 hh c14) ?_
     repeat apply TW.seq
     refine sk ?_
     obtain ⟨rCheck2, e15, H⟩ := bsome H
     repeat apply TW.seq
     refine rkc [2, 3, 5, 6, 7, 13, 14, 19, 21, 22] [] [(.tup [.int .i64 rCheck2.1, .bool rCheck2.2], stL [.cells true 3 [lNodes n.nodes, lLinks n.links, lEdges n.edges], .cells true 2 [ints f_.links, .int .i64 f_.node]])] (f3 hh c4 (f2 c9 c14)) ?_ ?_
     ·exact ⟨Call0.call (Pure.clr (sflow_Check_ok ax hx k n f_ from_ to_ x rCheck2 e15 ) (by first | rfl | simp only [c4, c9, c14])), trivial⟩
     clear hh h
     intro h hh
     obtain ⟨s_4, H1, H⟩ := bsome H
     repeat apply TW.seq
     refine cu [2, 3, 5, 6, 7, 13, 14, 113] 2 (fun h bs => (h 2 = .int .i64 from_ ∧ h 3 = .int .i64 to_ ∧ h 5 = ints cut ∧ h 6 = .ptr 0 0 3 ∧ h 7 = .ptr 1 0 2 ∧ h 13 = ints rMax.1 ∧ h 14 = ints rMax.2.1 ∧ h 113 = .bool s_4) ∧ bs = [.cells true 3 [lNodes n.nodes, lLinks n.links, lEdges n.edges], .cells true 2 [ints f_.links, .int .i64 f_.node]]) ?_ ?_
     ·skip
      rcases isb H1 with ⟨c16, H1⟩ | ⟨c16, H1⟩
      rotate_left
      ·skip
       repeat apply TW.seq
       refine rk [2, 3, 5, 6, 7, 13, 14, 113] [] (f3 hh c16 (f3 c4 c9 c14)) ?_
       clear hh h
       intro h hh
       cases H1
       exact ce hh ⟨kq hh, rfl⟩
      repeat apply TW.seq
      refine rk [2, 3, 5, 6, 7, 13, 14, 113] [] (f3 hh c16 (f3 c4 c9 c14)) ?_
      clear hh h
      intro h hh
      cases H1
      exact ce hh ⟨kq hh, rfl⟩
     clear hh h
     rintro h bs ⟨hh, rfl⟩
     rcases isb H with ⟨c17, H⟩ | ⟨c17, H⟩
     rotate_left
     ·skip
      repeat apply TW.seq
      refine cf (f2 hh c17) ?_
      repeat apply TW.seq
      refine sk ?_
      obtain ⟨rGreatest2, e18, H⟩ := bsome H
      repeat apply TW.seq
      refine rkc [5, 14, 121] [] [(.bool rGreatest2, stL [.cells true 3 [lNodes n.nodes, lLinks n.links, lEdges n.edges], .cells true 2 [ints f_.links, .int .i64 f_.node]])] (f3 hh c4 (f3 c9 c14 c17)) ?_ ?_
      ·exact ⟨Call0.call (Pure.clr (sflow_Greatest_ok ax hx k n f_ from_ to_ rMax.1 cut rGreatest2 e18 ) (by first | rfl | simp only [c4, c9, c14, c17])), trivial⟩
      clear hh h
      intro h hh
      rcases isb H with ⟨c19, H⟩ | ⟨c19, H⟩
      rotate_left
      ·skip
       repeat apply TW.seq
       refine ct (f2 hh c19) ?_
       repeat apply TW.seq
       refine rkc [12] [] [(.bool true, stL [.cells true 3 [lNodes n.nodes, lLinks n.links, lEdges n.edges], .cells true 2 [ints f_.links, .int .i64 f_.node]])] (f3 hh c4 (f3 c9 c14 (f2 c17 c19))) ?_ ?_
       ·exact ⟨Call0.call (Pure.clr hx.san (by first | rfl | simp only [c4, c9, c14, c17, c19])), trivial⟩
       clear hh h
       intro h hh
       cases H
       exact rt hh
      repeat apply TW.seq
      refine cf (f2 hh c19) ?_
      repeat apply TW.seq
      refine sk ?_
      repeat apply TW.seq
      refine rk [5, 14, 23] [] (f3 hh c4 (f3 c9 c14 (f2 c17 c19))) ?_
      clear hh h
      intro h hh
      repeat apply TW.seq
      refine rk [14, 23, 124, 125, 126] [] (f3 hh c4 (f3 c9 c14 (f2 c17 c19))) ?_
      clear hh h
      intro h hh
      obtain ⟨s_5, H1, H⟩ := bsome H
      repeat apply TW.seq
      refine cu [14, 23] 3 (fun h bs => (h 14 = ints rMax.2.1 ∧ h 23 = .mp 2) ∧ bs = [.cells true 3 [lNodes n.nodes, lLinks n.links, lEdges n.edges], .cells true 2 [ints f_.links, .int .i64 f_.node], .map (s_5.map fun p => ((T.int .i64) p.1, T.bool p.2))]) ?_ ?_
      ·skip
       repeat apply TW.seq
       apply TW.block
       repeat apply TW.seq
       refine TW.loopT [14, 23, 124, 125, 126] (fun m h bs => ∃ (i : Int) (mp : List (Int × Bool)), sl_FlowMaxIsGreatest_L0 k cut m i mp = some s_5 ∧ (h 14 = ints rMax.2.1 ∧ h 23 = .mp 2 ∧ h 124 = ints cut ∧ h 125 = .int .i64 (cut.length : Int) ∧ h 126 = .int .i64 i) ∧ bs = [.cells true 3 [lNodes n.nodes, lLinks n.links, lEdges n.edges], .cells true 2 [ints f_.links, .int .i64 f_.node], .map (mp.map fun p => ((T.int .i64) p.1, T.bool p.2))]) ?_ k _ _ ?_
       rotate_left
       ·exact ⟨0, ([] : List (Int × Bool)), H1, kq hh, rfl⟩
       clear hh h H1
       rintro m h bs ⟨i, mp, H1, hh, rfl⟩
       rcases m with _ | m
       ·rw [sl_FlowMaxIsGreatest_L0] at H1; cases H1
       rw [sl_FlowMaxIsGreatest_L0] at H1
       repeat apply TW.seq
       refine rk [14, 23, 124, 125, 126, 127] [] (f3 hh c4 (f3 c9 c14 (f2 c17 c19))) ?_
       clear hh h
       intro h hh
       rcases isp H1 with ⟨c20, H1⟩ | ⟨c20, H1⟩
       rotate_left
       ·skip
        repeat apply TW.seq
        refine cf (f2 hh (decide_eq_false c20)) ?_
        refine xk ?_
        cases H1
        exact ce hh ⟨kq hh, rfl⟩
       repeat apply TW.seq
       refine ct (f2 hh (decide_eq_true c20)) ?_
       repeat apply TW.seq
       refine sk ?_
       repeat apply TW.seq
       apply TW.block
       obtain ⟨g21, H1⟩ := isg H1
       repeat apply TW.seq
       refine rk [14, 23, 25, 124, 125, 126] [] (f3 hh c4 (f3 c9 c14 (f3 c17 c19 (gx_some g21)))) ?_
       clear hh h
       intro h hh
       repeat apply TW.seq
       refine rg [] [] [.cells true 3 [lNodes n.nodes, lLinks n.links, lEdges n.edges], .cells true 2 [ints f_.links, .int .i64 f_.node], .map ((mset (gx cut i) true mp).map fun p => ((T.int .i64) p.1, T.bool p.2))] (fun h => h 14 = ints rMax.2.1 ∧ h 23 = .mp 2 ∧ h 124 = ints cut ∧ h 125 = .int .i64 (cut.length : Int) ∧ h 126 = .int .i64 i) (f3 hh c4 (f3 c9 c14 (f2 c17 c19))) trivial ?_
       clear hh h
       intro h hh
       repeat apply TW.seq
       refine rk [14, 23, 124, 125, 126] [] (f3 hh c4 (f3 c9 c14 (f2 c17 c19))) ?_
       clear hh h
       intro h hh
       exact rd m hh ⟨(IntKind.i64.wrap (i + 1)), (mset (gx cut i) true mp), H1, kq hh, rfl⟩
      clear hh h
      rintro h bs ⟨hh, rfl⟩
      repeat apply TW.seq
      refine rk [23, 133, 134, 135] [] (f3 hh c4 (f3 c9 c14 (f2 c17 c19))) ?_
      clear hh h
      intro h hh
      obtain ⟨o, H1, H⟩ := bsome H
      repeat apply TW.seq
      refine cu [] 3 (fun h bs => ∃ s_6 : Unit, o = .inr s_6 ∧ (True) ∧ bs = [.cells true 3 [lNodes n.nodes, lLinks n.links, lEdges n.edges], .cells true 2 [ints f_.links, .int .i64 f_.node], .map (s_5.map fun p => ((T.int .i64) p.1, T.bool p.2))]) ?_ ?_
      ·skip
       repeat apply TW.seq
       apply TW.block
       repeat apply TW.seq
       refine TW.loopT [23, 133, 134, 135] (fun m h bs => ∃ (i2 : Int), sl_FlowMaxIsGreatest_L1 k rMax s_5 m i2 = some o ∧ (h 23 = .mp 2 ∧ h 133 = ints rMax.2.1 ∧ h 134 = .int .i64 (rMax.2.1.length : Int) ∧ h 135 = .int .i64 i2) ∧ bs = [.cells true 3 [lNodes n.nodes, lLinks n.links, lEdges n.edges], .cells true 2 [ints f_.links, .int .i64 f_.node], .map (s_5.map fun p => ((T.int .i64) p.1, T.bool p.2))]) ?_ k _ _ ?_
       rotate_left
       ·exact ⟨0, H1, kq hh, rfl⟩
       clear hh h H1
       rintro m h bs ⟨i2, H1, hh, rfl⟩
       rcases m with _ | m
       ·rw [sl_FlowMaxIsGreatest_L1] at H1; cases H1
       rw [sl_FlowMaxIsGreatest_L1] at H1
       repeat apply TW.seq
       refine rk [23, 133, 134, 135, 136] [] (f3 hh c4 (f3 c9 c14 (f2 c17 c19))) ?_
       clear hh h
       intro h hh
       rcases isp H1 with ⟨c22, H1⟩ | ⟨c22, H1⟩
       rotate_left
       ·skip
        repeat apply TW.seq
        refine cf (f2 hh (decide_eq_false c22)) ?_
        refine xk ?_
        cases H1
        exact ce hh ⟨_, rfl, kq hh, rfl⟩
       repeat apply TW.seq
       refine ct (f2 hh (decide_eq_true c22)) ?_
       repeat apply TW.seq
       refine sk ?_
       repeat apply TW.seq
       apply TW.block
       obtain ⟨g23, H1⟩ := isg H1
       repeat apply TW.seq
       refine rk [23, 27, 133, 134, 135] [] (f3 hh c4 (f3 c9 c14 (f3 c17 c19 (gx_some g23)))) ?_
       clear hh h
       intro h hh
       repeat apply TW.seq
       refine rk [23, 133, 134, 135, 142] [] (f3 hh c4 (f3 c9 c14 (f2 c17 c19))) ?_
       clear hh h
       intro h hh
       rcases isb H1 with ⟨c24, H1⟩ | ⟨c24, H1⟩
       rotate_left
       ·skip
        repeat apply TW.seq
        refine ct (f2 hh c24) ?_
        repeat apply TW.seq
        refine rk [12] [] (f3 hh c4 (f3 c9 c14 (f3 c17 c19 c24))) ?_
        clear hh h
        intro h hh
        cases H1
        obtain rfl := sinl H
        exact rt hh
       repeat apply TW.seq
       refine cf (f2 hh c24) ?_
       repeat apply TW.seq
       refine sk ?_
       repeat apply TW.seq
       refine rk [23, 133, 134, 135] [] (f3 hh c4 (f3 c9 c14 (f3 c17 c19 c24))) ?_
       clear hh h
       intro h hh
       exact rd m hh ⟨(IntKind.i64.wrap (i2 + 1)), H1, kq hh, rfl⟩
      clear hh h
      rintro h bs ⟨s_6, rfl, hh, rfl⟩
      replace H := sinr H
      repeat apply TW.seq
      refine rkc [12] [] [(.bool true, stL [.cells true 3 [lNodes n.nodes, lLinks n.links, lEdges n.edges], .cells true 2 [ints f_.links, .int .i64 f_.node], .map (s_5.map fun p => ((T.int .i64) p.1, T.bool p.2))])] (f3 hh c4 (f3 c9 c14 (f2 c17 c19))) ?_ ?_
      ·exact ⟨Call0.call (Pure.clr hx.san (by first | rfl | simp only [c4, c9, c14, c17, c19])), trivial⟩
      clear hh h
      intro h hh
      cases H
      exact rt hh
     repeat apply TW.seq
     refine ct (f2 hh c17) ?_
     repeat apply TW.seq
     refine rk [12] [] (f3 hh c4 (f3 c9 c14 c17)) ?_
     clear hh h
     intro h hh
     cases H
     exact rt hh
    repeat apply TW.seq
    refine ct (f2 hh c14) ?_
    repeat apply TW.seq
    refine rk [12] [] (f3 hh c4 (f2 c9 c14)) ?_
    clear hh h
    intro h hh
    cases H
    exact rt hh
   repeat apply TW.seq
   refine ct (f2 hh (decide_eq_true c10)) ?_
   repeat apply TW.seq
   refine rkc [12] [] [(.bool true, stL [.cells true 3 [lNodes n.nodes, lLinks n.links, lEdges n.edges], .cells true 2 [ints f_.links, .int .i64 f_.node]])] (f3 hh c4 c9) ?_ ?_
   ·exact ⟨Call0.call (Pure.clr hx.san (by first | rfl | simp only [c4, c9])), trivial⟩
   clear hh h
   intro h hh
   cases H
   exact rt hh
  repeat apply TW.seq
  refine ct (f2 hh c9) ?_
  repeat apply TW.seq
  refine rk [12] [] (f3 hh c4 c9) ?_
  clear hh h
  intro h hh
  cases H
  exact rt hh
 repeat apply TW.seq
 refine ct (f2 hh c4) ?_
 repeat apply TW.seq
 refine rkc [12] [] [(.bool true, stL [.cells true 3 [lNodes n.nodes, lLinks n.links, lEdges n.edges], .cells true 2 [ints f_.links, .int .i64 f_.node]])] (f2 hh c4) ?_ ?_
 ·exact ⟨Call0.call (Pure.clr hx.san (by first | rfl | simp only [c4])), trivial⟩
 clear hh h
 intro h hh
 cases H
 exact rt hh
end Go.Proofs.Ytfalnphlgfoflaa