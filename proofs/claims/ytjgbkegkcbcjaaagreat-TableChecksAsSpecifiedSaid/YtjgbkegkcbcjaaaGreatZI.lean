/- Part 9 of the proof of TableChecksAsSpecified (several texts in one; no further condition). -/
import Derived.Test.YtjgbkegkcbcjaaaGreatZH
set_option linter.unusedSimpArgs false
set_option linter.unusedVariables false
set_option linter.unusedSectionVars false
namespace Go.Proofs.YtjgbkegkcbcjaaaGreat
open Go Go.RowKit
set_option maxRecDepth 100000
def sl_TableChecksAsSpecified_L0 (k : Nat) (t : List Rule) (u : List Rule) : Nat → Int → Option (Bool ⊕ Unit)
 | 0, _ => none
 | m + 1, i => (if i < (t.length : Int) then (if i < (u.length : Int) then (if (0 : Int) ≤ i ∧ i < (t.length : Int) then (if (0 : Int) ≤ i ∧ i < (u.length : Int) then ((stable_SameRule k (gx t i) (gx u i)).bind fun rSameRule => ((sr25_SameRule k (gx t i) (gx u i)).bind fun rSameRule2 => (if rSameRule = true then (if rSameRule2 = true then ((stable_Drops k (gx t i)).bind fun rDrops => ((sr25_Drops k (gx t i)).bind fun rDrops2 => (if rDrops = true then (if rDrops2 = true then sl_TableChecksAsSpecified_L0 k t u m (IntKind.i64.wrap (i + 1)) else some (.inl false)) else (if rDrops2 = true then some (.inl false) else sl_TableChecksAsSpecified_L0 k t u m (IntKind.i64.wrap (i + 1)))))) else some (.inl false)) else (if rSameRule2 = true then some (.inl false) else ((stable_Drops k (gx t i)).bind fun rDrops3 => ((sr25_Drops k (gx t i)).bind fun rDrops4 => (if rDrops3 = true then (if rDrops4 = true then sl_TableChecksAsSpecified_L0 k t u m (IntKind.i64.wrap (i + 1)) else some (.inl false)) else (if rDrops4 = true then some (.inl false) else sl_TableChecksAsSpecified_L0 k t u m (IntKind.i64.wrap (i + 1)))))))))) else none) else none) else (if (0 : Int) ≤ i ∧ i < (t.length : Int) then ((stable_Drops k (gx t i)).bind fun rDrops5 => ((sr25_Drops k (gx t i)).bind fun rDrops6 => (if rDrops5 = true then (if rDrops6 = true then sl_TableChecksAsSpecified_L0 k t u m (IntKind.i64.wrap (i + 1)) else some (.inl false)) else (if rDrops6 = true then some (.inl false) else sl_TableChecksAsSpecified_L0 k t u m (IntKind.i64.wrap (i + 1)))))) else none)) else some (.inr ()))
def sl_TableChecksAsSpecified (k : Nat) (n : Net) (steps : Int) (t : List Rule) (u : List Rule) : Option Bool := ((((sr09_Few k n 10 24 20).bind fun rFew => (if rFew = true then ((sr09_Check k n).bind fun rCheck => (if rCheck ≠ 0 then some true else ((sr25_Few k t 12).bind fun rFew2 => (if rFew2 = true then (if 4010 < (t.length : Int) then some true else ((sr25_Few k u 12).bind fun rFew3 => some (!rFew3))) else (if (t.length : Int) ≤ 4000 then some true else (if 4010 < (t.length : Int) then some true else ((sr25_Few k u 12).bind fun rFew4 => some (!rFew4)))))))) else some true)) : Option Bool).bind fun s_ => (if s_ = true then some true else ((stable_Check k n steps t).bind fun rCheck2 => ((sr25_Check k n steps t).bind fun rCheck3 => (((if rCheck2.1 ≠ rCheck3.1 then some true else (if rCheck2.2 ≠ rCheck3.2 then some true else ((stable_Same k t u).bind fun rSame => ((sr25_Same k t u).bind fun rSame2 => (if rSame = true then (if rSame2 = true then some false else some true) else (if rSame2 = true then some true else some false)))))) : Option Bool).bind fun s_2 => (if s_2 = true then some false else ((sl_TableChecksAsSpecified_L0 k t u k 0 : Option (Bool ⊕ Unit)).bind fun o => Sum.elim (fun r => some r) (fun s_3 => some true) o)))))))
set_option maxHeartbeats 8000000 in
theorem sl_TableChecksAsSpecified_ok (ax : Axs) (hx : Plain ax) (k : Nat) (n : Net) (steps : Int) (t : List Rule) (u : List Rule) (v : Bool) (H : sl_TableChecksAsSpecified k n steps t u = some v) : Pure Tryz.prog (EE ax) [] 3 [eNet n, .int .i64 steps, lRule t, lRule u] (.bool v) := by
 rw [sl_TableChecksAsSpecified] at H
 refine en [.tmp 8] 119 [0, 1, 2, 3] (hx.no _ (by decide)) (fn3 ax) ?_
 intro h hh
 repeat apply TW.seq
 refine rk [1, 2, 3, 4] [] hh ?_
 clear hh h
 intro h hh
 obtain ⟨s_, H1, H⟩ := bsome H
 repeat apply TW.seq
 refine cu [1, 2, 3, 4, 41] 1 (fun h bs => (h 1 = .int .i64 steps ∧ h 2 = lRule t ∧ h 3 = lRule u ∧ h 4 = .ptr 0 0 3 ∧ h 41 = .bool s_) ∧ bs = [.cells true 3 [lNode n.nodes, lLink n.links, lEdge n.edges]]) ?_ ?_
 ·skip
  obtain ⟨rFew, e1, H1⟩ := bsome H1
  rcases isb H1 with ⟨c2, H1⟩ | ⟨c2, H1⟩
  rotate_left
  ·skip
   repeat apply TW.seq
   refine rkc [1, 2, 3, 4, 41] [] [(.bool rFew, stL [.cells true 3 [lNode n.nodes, lLink n.links, lEdge n.edges]])] (f2 hh c2) ?_ ?_
   ·exact ⟨Call0.call (Pure.clr (sr09_Few_ok ax hx k n 10 24 20 rFew e1 ) (by first | rfl | simp only [c2])), trivial⟩
   clear hh h
   intro h hh
   cases H1
   exact ce hh ⟨kq hh, rfl⟩
  obtain ⟨rCheck, e3, H1⟩ := bsome H1
  rcases isp H1 with ⟨c4, H1⟩ | ⟨c4, H1⟩
  rotate_left
  ·skip
   obtain ⟨rFew2, e5, H1⟩ := bsome H1
   rcases isb H1 with ⟨c6, H1⟩ | ⟨c6, H1⟩
   rotate_left
   ·skip
    rcases isp H1 with ⟨c9, H1⟩ | ⟨c9, H1⟩
    rotate_left
    ·skip
     rcases isp H1 with ⟨c10, H1⟩ | ⟨c10, H1⟩
     rotate_left
     ·skip
      obtain ⟨rFew4, e11, H1⟩ := bsome H1
      repeat apply TW.seq
      refine rkc [1, 2, 3, 4, 41] [] [(.bool rFew, stL [.cells true 3 [lNode n.nodes, lLink n.links, lEdge n.edges]]), (.int .i64 rCheck, stL [.cells true 3 [lNode n.nodes, lLink n.links, lEdge n.edges]]), (.bool rFew2, stL [.cells true 3 [lNode n.nodes, lLink n.links, lEdge n.edges]]), (.bool rFew4, stL [.cells true 3 [lNode n.nodes, lLink n.links, lEdge n.edges]])] (f3 hh c2 (f3 (decide_eq_false c4) c6 (f2 (decide_eq_false c9) (decide_eq_false c10)))) ?_ ?_
      ·exact ⟨Call0.call (Pure.clr (sr09_Few_ok ax hx k n 10 24 20 rFew e1 ) (by first | rfl | simp only [c2, c6])), Call0.call (Pure.clr (sr09_Check_ok ax hx k n rCheck e3 ) (by first | rfl | simp only [c2, c6])), Call0.call (Pure.clr (sr25_Few_ok ax hx k t 12 rFew2 e5 ) (by first | rfl | simp only [c2, c6])), Call0.call (Pure.clr (sr25_Few_ok ax hx k u 12 rFew4 e11 ) (by first | rfl | simp only [c2, c6])), trivial⟩
      clear hh h
      intro h hh
      cases H1
      exact ce hh ⟨kq hh, rfl⟩
     repeat apply TW.seq
     refine rkc [1, 2, 3, 4, 41] [] [(.bool rFew, stL [.cells true 3 [lNode n.nodes, lLink n.links, lEdge n.edges]]), (.int .i64 rCheck, stL [.cells true 3 [lNode n.nodes, lLink n.links, lEdge n.edges]]), (.bool rFew2, stL [.cells true 3 [lNode n.nodes, lLink n.links, lEdge n.edges]])] (f3 hh c2 (f3 (decide_eq_false c4) c6 (f2 (decide_eq_false c9) (decide_eq_true c10)))) ?_ ?_
     ·exact ⟨Call0.call (Pure.clr (sr09_Few_ok ax hx k n 10 24 20 rFew e1 ) (by first | rfl | simp only [c2, c6])), Call0.call (Pure.clr (sr09_Check_ok ax hx k n rCheck e3 ) (by first | rfl | simp only [c2, c6])), Call0.call (Pure.clr (sr25_Few_ok ax hx k t 12 rFew2 e5 ) (by first | rfl | simp only [c2, c6])), trivial⟩
     clear hh h
     intro h hh
     cases H1
     exact ce hh ⟨kq hh, rfl⟩
    repeat apply TW.seq
    refine rkc [1, 2, 3, 4, 41] [] [(.bool rFew, stL [.cells true 3 [lNode n.nodes, lLink n.links, lEdge n.edges]]), (.int .i64 rCheck, stL [.cells true 3 [lNode n.nodes, lLink n.links, lEdge n.edges]]), (.bool rFew2, stL [.cells true 3 [lNode n.nodes, lLink n.links, lEdge n.edges]])] (f3 hh c2 (f3 (decide_eq_false c4) c6 (decide_eq_true c9))) ?_ ?_
    ·exact ⟨Call0.call (Pure.clr (sr09_Few_ok ax hx k n 10 24 20 rFew e1 ) (by first | rfl | simp only [c2, c6])), Call0.call (Pure.clr (sr09_Check_ok ax hx k n rCheck e3 ) (by first | rfl | simp only [c2, c6])), Call0.call (Pure.clr (sr25_Few_ok ax hx k t 12 rFew2 e5 ) (by first | rfl | simp only [c2, c6])), trivial⟩
    clear hh h
    intro h hh
    cases H1
    exact ce hh ⟨kq hh, rfl⟩
   rcases isp H1 with ⟨c7, H1⟩ | ⟨c7, H1⟩
   rotate_left
   ·skip
    obtain ⟨rFew3, e8, H1⟩ := bsome H1
    repeat apply TW.seq
    refine rkc [1, 2, 3, 4, 41] [] [(.bool rFew, stL [.cells true 3 [lNode n.nodes, lLink n.links, lEdge n.edges]]), (.int .i64 rCheck, stL [.cells true 3 [lNode n.nodes, lLink n.links, lEdge n.edges]]), (.bool rFew2, stL [.cells true 3 [lNode n.nodes, lLink n.links, lEdge n.edges]]), (.bool rFew3, stL [.cells true 3 [lNode n.nodes, lLink n.links, lEdge n.edges]])] (f3 hh c2 (f3 (decide_eq_false c4) c6 (decide_eq_false c7))) ?_ ?_
    ·exact ⟨Call0.call (Pure.clr (sr09_Few_ok ax hx k n 10 24 20 rFew e1 ) (by first | rfl | simp only [c2, c6])), Call0.call (Pure.clr (sr09_Check_ok ax hx k n rCheck e3 ) (by first | rfl | simp only [c2, c6])), Call0.call (Pure.clr (sr25_Few_ok ax hx k t 12 rFew2 e5 ) (by first | rfl | simp only [c2, c6])), Call0.call (Pure.clr (sr25_Few_ok ax hx k u 12 rFew3 e8 ) (by first | rfl | simp only [c2, c6])), trivial⟩
    clear hh h
    intro h hh
    cases H1
    exact ce hh ⟨kq hh, rfl⟩
   repeat apply TW.seq
   refine rkc [1, 2, 3, 4, 41] [] [(.bool rFew, stL [.cells true 3 [lNode n.nodes, lLink n.links, lEdge n.edges]]), (.int .i64 rCheck, stL [.cells true 3 [lNode n.nodes, lLink n.links, lEdge n.edges]]), (.bool rFew2, stL [.cells true 3 [lNode n.nodes, lLink n.links, lEdge n.edges]])] (f3 hh c2 (f3 (decide_eq_false c4) c6 (decide_eq_true c7))) ?_ ?_
   ·exact ⟨Call0.call (Pure.clr (sr09_Few_ok ax hx k n 10 24 20 rFew e1 ) (by first | rfl | simp only [c2, c6])), Call0.call (Pure.clr (sr09_Check_ok ax hx k n rCheck e3 ) (by first | rfl | simp only [c2, c6])), Call0.call (Pure.clr (sr25_Few_ok ax hx k t 12 rFew2 e5 ) (by first | rfl | simp only [c2, c6])), trivial⟩
   clear hh h
   intro h hh
   cases H1
   exact ce hh ⟨kq hh, rfl⟩
  repeat apply TW.seq
  refine rkc [1, 2, 3, 4, 41] [] [(.bool rFew, stL [.cells true 3 [lNode n.nodes, lLink n.links, lEdge n.edges]]), (.int .i64 rCheck, stL [.cells true 3 [lNode n.nodes, lLink n.links, lEdge n.edges]])] (f3 hh c2 (decide_eq_true c4)) ?_ ?_
  ·exact ⟨Call0.call (Pure.clr (sr09_Few_ok ax hx k n 10 24 20 rFew e1 ) (by first | rfl | simp only [c2])), Call0.call (Pure.clr (sr09_Check_ok ax hx k n rCheck e3 ) (by first | rfl | simp only [c2])), trivial⟩
  clear hh h
  intro h hh
  cases H1
  exact ce hh ⟨kq hh, rfl⟩
 clear hh h
 rintro h bs ⟨hh, rfl⟩
 rcases isb H with ⟨c12, H⟩ | ⟨c12, H⟩
 rotate_left
 ·skip
  repeat apply TW.seq
  refine cf (f2 hh c12) ?_
  repeat apply TW.seq
  refine sk ?_
  obtain ⟨rCheck2, e13, H⟩ := bsome H
  repeat apply TW.seq
  refine rkc [1, 2, 3, 4, 9, 10] [] [(.tup [.int .i64 rCheck2.1, .int .i64 rCheck2.2], stL [.cells true 3 [lNode n.nodes, lLink n.links, lEdge n.edges]])] (f2 hh c12) ?_ ?_
  ·exact ⟨Call0.call (Pure.clr (stable_Check_ok ax hx k n steps t rCheck2 e13 ) (by first | rfl | simp only [c12])), trivial⟩
  clear hh h
  intro h hh
  obtain ⟨rCheck3, e14, H⟩ := bsome H
  repeat apply TW.seq
  refine rkc [2, 3, 9, 10, 11, 12] [] [(.tup [.int .i64 rCheck3.1, .int .i64 rCheck3.2], stL [.cells true 3 [lNode n.nodes, lLink n.links, lEdge n.edges]])] (f2 hh c12) ?_ ?_
  ·exact ⟨Call0.call (Pure.clr (sr25_Check_ok ax hx k n steps t rCheck3 e14 ) (by first | rfl | simp only [c12])), trivial⟩
  clear hh h
  intro h hh
  obtain ⟨s_2, H1, H⟩ := bsome H
  repeat apply TW.seq
  refine cu [2, 3, 73] 1 (fun h bs => (h 2 = lRule t ∧ h 3 = lRule u ∧ h 73 = .bool s_2) ∧ bs = [.cells true 3 [lNode n.nodes, lLink n.links, lEdge n.edges]]) ?_ ?_
  ·skip
   rcases isp H1 with ⟨c15, H1⟩ | ⟨c15, H1⟩
   rotate_left
   ·skip
    rcases isp H1 with ⟨c16, H1⟩ | ⟨c16, H1⟩
    rotate_left
    ·skip
     obtain ⟨rSame, e17, H1⟩ := bsome H1
     obtain ⟨rSame2, e18, H1⟩ := bsome H1
     rcases isb H1 with ⟨c19, H1⟩ | ⟨c19, H1⟩
     rotate_left
     ·skip
      rcases isb H1 with ⟨c21, H1⟩ | ⟨c21, H1⟩
      rotate_left
      ·skip
       repeat apply TW.seq
       refine rkc [2, 3, 73] [] [(.bool rSame, stL [.cells true 3 [lNode n.nodes, lLink n.links, lEdge n.edges]]), (.bool rSame2, stL [.cells true 3 [lNode n.nodes, lLink n.links, lEdge n.edges]])] (f3 hh (decide_eq_false c15) (f3 (decide_eq_false c16) c19 (f2 c21 c12))) ?_ ?_
       ·exact ⟨Call0.call (Pure.clr (stable_Same_ok ax hx k t u rSame e17 ) (by first | rfl | simp only [c12, c19, c21])), Call0.call (Pure.clr (sr25_Same_ok ax hx k t u rSame2 e18 ) (by first | rfl | simp only [c12, c19, c21])), trivial⟩
       clear hh h
       intro h hh
       cases H1
       exact ce hh ⟨kq hh, rfl⟩
      repeat apply TW.seq
      refine rkc [2, 3, 73] [] [(.bool rSame, stL [.cells true 3 [lNode n.nodes, lLink n.links, lEdge n.edges]]), (.bool rSame2, stL [.cells true 3 [lNode n.nodes, lLink n.links, lEdge n.edges]])] (f3 hh (decide_eq_false c15) (f3 (decide_eq_false c16) c19 (f2 c21 c12))) ?_ ?_
      ·exact ⟨Call0.call (Pure.clr (stable_Same_ok ax hx k t u rSame e17 ) (by first | rfl | simp only [c12, c19, c21])), Call0.call (Pure.clr (sr25_Same_ok ax hx k t u rSame2 e18 ) (by first | rfl | simp only [c12, c19, c21])), trivial⟩
      clear hh h
      intro h hh
      cases H1
      exact ce hh ⟨kq hh, rfl⟩
     rcases isb H1 with ⟨c20, H1⟩ | ⟨c20, H1⟩
     rotate_left
     ·skip
      repeat apply TW.seq
      refine rkc [2, 3, 73] [] [(.bool rSame, stL [.cells true 3 [lNode n.nodes, lLink n.links, lEdge n.edges]]), (.bool rSame2, stL [.cells true 3 [lNode n.nodes, lLink n.links, lEdge n.edges]])] (f3 hh (decide_eq_false c15) (f3 (decide_eq_false c16) c19 (f2 c20 c12))) ?_ ?_
      ·exact ⟨Call0.call (Pure.clr (stable_Same_ok ax hx k t u rSame e17 ) (by first | rfl | simp only [c12, c19, c20])), Call0.call (Pure.clr (sr25_Same_ok ax hx k t u rSame2 e18 ) (by first | rfl | simp only [c12, c19, c20])), trivial⟩
      clear hh h
      intro h hh
      cases H1
      exact ce hh ⟨kq hh, rfl⟩
     repeat apply TW.seq
     refine rkc [2, 3, 73] [] [(.bool rSame, stL [.cells true 3 [lNode n.nodes, lLink n.links, lEdge n.edges]]), (.bool rSame2, stL [.cells true 3 [lNode n.nodes, lLink n.links, lEdge n.edges]])] (f3 hh (decide_eq_false c15) (f3 (decide_eq_false c16) c19 (f2 c20 c12))) ?_ ?_
     ·exact ⟨Call0.call (Pure.clr (stable_Same_ok ax hx k t u rSame e17 ) (by first | rfl | simp only [c12, c19, c20])), Call0.call (Pure.clr (sr25_Same_ok ax hx k t u rSame2 e18 ) (by first | rfl | simp only [c12, c19, c20])), trivial⟩
     clear hh h
     intro h hh
     cases H1
     exact ce hh ⟨kq hh, rfl⟩
    repeat apply TW.seq
    refine rk [2, 3, 73] [] (f3 hh (decide_eq_false c15) (f2 (decide_eq_true c16) c12)) ?_
    clear hh h
    intro h hh
    cases H1
    exact ce hh ⟨kq hh, rfl⟩
   repeat apply TW.seq
   refine rk [2, 3, 73] [] (f3 hh (decide_eq_true c15) c12) ?_
   clear hh h
   intro h hh
   cases H1
   exact ce hh ⟨kq hh, rfl⟩
  clear hh h
  rintro h bs ⟨hh, rfl⟩
  rcases isb H with ⟨c22, H⟩ | ⟨c22, H⟩
  rotate_left
  ·skip
   repeat apply TW.seq
   refine cf (f2 hh c22) ?_
   repeat apply TW.seq
   refine sk ?_
   repeat apply TW.seq
   refine rk [2, 3, 75, 76] [] (f3 hh c12 c22) ?_
   clear hh h
   intro h hh
   obtain ⟨o, H1, H⟩ := bsome H
   repeat apply TW.seq
   refine cu [] 1 (fun h bs => ∃ s_3 : Unit, o = .inr s_3 ∧ (True) ∧ bs = [.cells true 3 [lNode n.nodes, lLink n.links, lEdge n.edges]]) ?_ ?_
   ·skip
    repeat apply TW.seq
    apply TW.block
    repeat apply TW.seq
    refine TW.loopT [2, 3, 75, 76] (fun m h bs => ∃ (i : Int), sl_TableChecksAsSpecified_L0 k t u m i = some o ∧ (h 2 = lRule t ∧ h 3 = lRule u ∧ h 75 = .int .i64 (t.length : Int) ∧ h 76 = .int .i64 i) ∧ bs = [.cells true 3 [lNode n.nodes, lLink n.links, lEdge n.edges]]) ?_ k _ _ ?_
    rotate_left
    ·exact ⟨0, H1, kq hh, rfl⟩
    clear hh h H1
    rintro m h bs ⟨i, H1, hh, rfl⟩
    rcases m with _ | m
    ·rw [sl_TableChecksAsSpecified_L0] at H1; cases H1
    rw [sl_TableChecksAsSpecified_L0] at H1
    repeat apply TW.seq
    refine rk [2, 3, 75, 76, 77] [] (f3 hh c12 c22) ?_
    clear hh h
    intro h hh
    rcases isp H1 with ⟨c23, H1⟩ | ⟨c23, H1⟩
    rotate_left
    ·skip
     repeat apply TW.seq
     refine cf (f2 hh (decide_eq_false c23)) ?_
     refine xk ?_
     cases H1
     exact ce hh ⟨_, rfl, kq hh, rfl⟩
    repeat apply TW.seq
    refine ct (f2 hh (decide_eq_true c23)) ?_
    repeat apply TW.seq
    refine sk ?_
    repeat apply TW.seq
    apply TW.block
    repeat apply TW.seq
    refine rk [2, 3, 13, 75, 76] [] (f3 hh c12 c22) ?_
    clear hh h
    intro h hh
    rcases isp H1 with ⟨c24, H1⟩ | ⟨c24, H1⟩
    rotate_left
    ·skip
     obtain ⟨g42, H1⟩ := isg H1
     obtain ⟨rDrops5, e43, H1⟩ := bsome H1
     obtain ⟨rDrops6, e44, H1⟩ := bsome H1
     rcases isb H1 with ⟨c45, H1⟩ | ⟨c45, H1⟩
     rotate_left
     ·skip
      rcases isb H1 with ⟨c47, H1⟩ | ⟨c47, H1⟩
      rotate_left
      ·skip
       repeat apply TW.seq
       refine dk 35 [2, 3, 75, 76, 116] [.bool rDrops5] [] [(.bool rDrops6, stL [.cells true 3 [lNode n.nodes, lLink n.links, lEdge n.edges]])] (f3 hh (decide_eq_false c24) (f3 c45 c47 (f3 c12 c22 (gx_some g42)))) ?_ ?_ ?_
       ·exact ⟨Pure.clr (stable_Drops_ok ax hx k (gx t i) rDrops5 e43 ) (by first | rfl | simp only [c12, c22, c45, c47]), trivial⟩
       ·exact ⟨Call0.call (Pure.clr (sr25_Drops_ok ax hx k (gx t i) rDrops6 e44 ) (by first | rfl | simp only [c12, c22, c45, c47])), trivial⟩
       clear hh h
       intro h hh
       repeat apply TW.seq
       refine cf hh ?_
       repeat apply TW.seq
       refine sk ?_
       repeat apply TW.seq
       refine rk [2, 3, 75, 76] [] (f3 hh c12 (f3 c22 c45 c47)) ?_
       clear hh h
       intro h hh
       exact rd m hh ⟨(IntKind.i64.wrap (i + 1)), H1, kq hh, rfl⟩
      repeat apply TW.seq
      refine dk 35 [2, 3, 75, 76, 116] [.bool rDrops5] [] [(.bool rDrops6, stL [.cells true 3 [lNode n.nodes, lLink n.links, lEdge n.edges]])] (f3 hh (decide_eq_false c24) (f3 c45 c47 (f3 c12 c22 (gx_some g42)))) ?_ ?_ ?_
      ·exact ⟨Pure.clr (stable_Drops_ok ax hx k (gx t i) rDrops5 e43 ) (by first | rfl | simp only [c12, c22, c45, c47]), trivial⟩
      ·exact ⟨Call0.call (Pure.clr (sr25_Drops_ok ax hx k (gx t i) rDrops6 e44 ) (by first | rfl | simp only [c12, c22, c45, c47])), trivial⟩
      clear hh h
      intro h hh
      repeat apply TW.seq
      refine ct hh ?_
      repeat apply TW.seq
      refine rk [8] [] (f3 hh c12 (f3 c22 c45 c47)) ?_
      clear hh h
      intro h hh
      cases H1
      obtain rfl := sinl H
      exact rt hh
     rcases isb H1 with ⟨c46, H1⟩ | ⟨c46, H1⟩
     rotate_left
     ·skip
      repeat apply TW.seq
      refine dk 35 [2, 3, 75, 76, 116] [.bool rDrops5] [] [(.bool rDrops6, stL [.cells true 3 [lNode n.nodes, lLink n.links, lEdge n.edges]])] (f3 hh (decide_eq_false c24) (f3 c45 c46 (f3 c12 c22 (gx_some g42)))) ?_ ?_ ?_
      ·exact ⟨Pure.clr (stable_Drops_ok ax hx k (gx t i) rDrops5 e43 ) (by first | rfl | simp only [c12, c22, c45, c46]), trivial⟩
      ·exact ⟨Call0.call (Pure.clr (sr25_Drops_ok ax hx k (gx t i) rDrops6 e44 ) (by first | rfl | simp only [c12, c22, c45, c46])), trivial⟩
      clear hh h
      intro h hh
      repeat apply TW.seq
      refine ct hh ?_
      repeat apply TW.seq
      refine rk [8] [] (f3 hh c12 (f3 c22 c45 c46)) ?_
      clear hh h
      intro h hh
      cases H1
      obtain rfl := sinl H
      exact rt hh
     repeat apply TW.seq
     refine dk 35 [2, 3, 75, 76, 116] [.bool rDrops5] [] [(.bool rDrops6, stL [.cells true 3 [lNode n.nodes, lLink n.links, lEdge n.edges]])] (f3 hh (decide_eq_false c24) (f3 c45 c46 (f3 c12 c22 (gx_some g42)))) ?_ ?_ ?_
     ·exact ⟨Pure.clr (stable_Drops_ok ax hx k (gx t i) rDrops5 e43 ) (by first | rfl | simp only [c12, c22, c45, c46]), trivial⟩
     ·exact ⟨Call0.call (Pure.clr (sr25_Drops_ok ax hx k (gx t i) rDrops6 e44 ) (by first | rfl | simp only [c12, c22, c45, c46])), trivial⟩
     clear hh h
     intro h hh
     repeat apply TW.seq
     refine cf hh ?_
     repeat apply TW.seq
     refine sk ?_
     repeat apply TW.seq
     refine rk [2, 3, 75, 76] [] (f3 hh c12 (f3 c22 c45 c46)) ?_
     clear hh h
     intro h hh
     exact rd m hh ⟨(IntKind.i64.wrap (i + 1)), H1, kq hh, rfl⟩
    obtain ⟨g25, H1⟩ := isg H1
    obtain ⟨g26, H1⟩ := isg H1
    obtain ⟨rSameRule, e27, H1⟩ := bsome H1
    obtain ⟨rSameRule2, e28, H1⟩ := bsome H1
    rcases isb H1 with ⟨c29, H1⟩ | ⟨c29, H1⟩
    rotate_left
    ·skip
     rcases isb H1 with ⟨c36, H1⟩ | ⟨c36, H1⟩
     rotate_left
     ·skip
      obtain ⟨rDrops3, e37, H1⟩ := bsome H1
      obtain ⟨rDrops4, e38, H1⟩ := bsome H1
      rcases isb H1 with ⟨c39, H1⟩ | ⟨c39, H1⟩
      rotate_left
      ·skip
       rcases isb H1 with ⟨c41, H1⟩ | ⟨c41, H1⟩
       rotate_left
       ·skip
        repeat apply TW.seq
        refine dk 35 [2, 3, 75, 76, 116] [.bool rSameRule, .bool rSameRule2, .bool rDrops3] [] [(.bool rDrops4, stL [.cells true 3 [lNode n.nodes, lLink n.links, lEdge n.edges]])] (f3 hh (decide_eq_true c24) (f3 c29 c36 (f3 c39 c41 (f3 c12 c22 (f2 (gx_some g25) (gx_some g26)))))) ?_ ?_ ?_
        ·exact ⟨Pure.clr (stable_SameRule_ok ax hx k (gx t i) (gx u i) rSameRule e27 ) (by first | rfl | simp only [c12, c22, c29, c36, c39, c41]), Pure.clr (sr25_SameRule_ok ax hx k (gx t i) (gx u i) rSameRule2 e28 ) (by first | rfl | simp only [c12, c22, c29, c36, c39, c41]), Pure.clr (stable_Drops_ok ax hx k (gx t i) rDrops3 e37 ) (by first | rfl | simp only [c12, c22, c29, c36, c39, c41]), trivial⟩
        ·exact ⟨Call0.call (Pure.clr (sr25_Drops_ok ax hx k (gx t i) rDrops4 e38 ) (by first | rfl | simp only [c12, c22, c29, c36, c39, c41])), trivial⟩
        clear hh h
        intro h hh
        repeat apply TW.seq
        refine cf hh ?_
        repeat apply TW.seq
        refine sk ?_
        repeat apply TW.seq
        refine rk [2, 3, 75, 76] [] (f3 hh c12 (f3 c22 c29 (f3 c36 c39 c41))) ?_
        clear hh h
        intro h hh
        exact rd m hh ⟨(IntKind.i64.wrap (i + 1)), H1, kq hh, rfl⟩
       repeat apply TW.seq
       refine dk 35 [2, 3, 75, 76, 116] [.bool rSameRule, .bool rSameRule2, .bool rDrops3] [] [(.bool rDrops4, stL [.cells true 3 [lNode n.nodes, lLink n.links, lEdge n.edges]])] (f3 hh (decide_eq_true c24) (f3 c29 c36 (f3 c39 c41 (f3 c12 c22 (f2 (gx_some g25) (gx_some g26)))))) ?_ ?_ ?_
       ·exact ⟨Pure.clr (stable_SameRule_ok ax hx k (gx t i) (gx u i) rSameRule e27 ) (by first | rfl | simp only [c12, c22, c29, c36, c39, c41]), Pure.clr (sr25_SameRule_ok ax hx k (gx t i) (gx u i) rSameRule2 e28 ) (by first | rfl | simp only [c12, c22, c29, c36, c39, c41]), Pure.clr (stable_Drops_ok ax hx k (gx t i) rDrops3 e37 ) (by first | rfl | simp only [c12, c22, c29, c36, c39, c41]), trivial⟩
       ·exact ⟨Call0.call (Pure.clr (sr25_Drops_ok ax hx k (gx t i) rDrops4 e38 ) (by first | rfl | simp only [c12, c22, c29, c36, c39, c41])), trivial⟩
       clear hh h
       intro h hh
       repeat apply TW.seq
       refine ct hh ?_
       repeat apply TW.seq
       refine rk [8] [] (f3 hh c12 (f3 c22 c29 (f3 c36 c39 c41))) ?_
       clear hh h
       intro h hh
       cases H1
       obtain rfl := sinl H
       exact rt hh
      rcases isb H1 with ⟨c40, H1⟩ | ⟨c40, H1⟩
      rotate_left
      ·skip
       repeat apply TW.seq
       refine dk 35 [2, 3, 75, 76, 116] [.bool rSameRule, .bool rSameRule2, .bool rDrops3] [] [(.bool rDrops4, stL [.cells true 3 [lNode n.nodes, lLink n.links, lEdge n.edges]])] (f3 hh (decide_eq_true c24) (f3 c29 c36 (f3 c39 c40 (f3 c12 c22 (f2 (gx_some g25) (gx_some g26)))))) ?_ ?_ ?_
       ·exact ⟨Pure.clr (stable_SameRule_ok ax hx k (gx t i) (gx u i) rSameRule e27 ) (by first | rfl | simp only [c12, c22, c29, c36, c39, c40]), Pure.clr (sr25_SameRule_ok ax hx k (gx t i) (gx u i) rSameRule2 e28 ) (by first | rfl | simp only [c12, c22, c29, c36, c39, c40]), Pure.clr (stable_Drops_ok ax hx k (gx t i) rDrops3 e37 ) (by first | rfl | simp only [c12, c22, c29, c36, c39, c40]), trivial⟩
       ·exact ⟨Call0.call (Pure.clr (sr25_Drops_ok ax hx k (gx t i) rDrops4 e38 ) (by first | rfl | simp only [c12, c22, c29, c36, c39, c40])), trivial⟩
       clear hh h
       intro h hh
       repeat apply TW.seq
       refine ct hh ?_
       repeat apply TW.seq
       refine rk [8] [] (f3 hh c12 (f3 c22 c29 (f3 c36 c39 c40))) ?_
       clear hh h
       intro h hh
       cases H1
       obtain rfl := sinl H
       exact rt hh
      repeat apply TW.seq
      refine dk 35 [2, 3, 75, 76, 116] [.bool rSameRule, .bool rSameRule2, .bool rDrops3] [] [(.bool rDrops4, stL [.cells true 3 [lNode n.nodes, lLink n.links, lEdge n.edges]])] (f3 hh (decide_eq_true c24) (f3 c29 c36 (f3 c39 c40 (f3 c12 c22 (f2 (gx_some g25) (gx_some g26)))))) ?_ ?_ ?_
      ·exact ⟨Pure.clr (stable_SameRule_ok ax hx k (gx t i) (gx u i) rSameRule e27 ) (by first | rfl | simp only [c12, c22, c29, c36, c39, c40]), Pure.clr (sr25_SameRule_ok ax hx k (gx t i) (gx u i) rSameRule2 e28 ) (by first | rfl | simp only [c12, c22, c29, c36, c39, c40]), Pure.clr (stable_Drops_ok ax hx k (gx t i) rDrops3 e37 ) (by first | rfl | simp only [c12, c22, c29, c36, c39, c40]), trivial⟩
      ·exact ⟨Call0.call (Pure.clr (sr25_Drops_ok ax hx k (gx t i) rDrops4 e38 ) (by first | rfl | simp only [c12, c22, c29, c36, c39, c40])), trivial⟩
      clear hh h
      intro h hh
      repeat apply TW.seq
      refine cf hh ?_
      repeat apply TW.seq
      refine sk ?_
      repeat apply TW.seq
      refine rk [2, 3, 75, 76] [] (f3 hh c12 (f3 c22 c29 (f3 c36 c39 c40))) ?_
      clear hh h
      intro h hh
      exact rd m hh ⟨(IntKind.i64.wrap (i + 1)), H1, kq hh, rfl⟩
     repeat apply TW.seq
     refine dk 35 [2, 3, 75, 76, 116] [.bool rSameRule, .bool rSameRule2] [] [] (f3 hh (decide_eq_true c24) (f3 c29 c36 (f3 c12 c22 (f2 (gx_some g25) (gx_some g26))))) ?_ trivial ?_
     ·exact ⟨Pure.clr (stable_SameRule_ok ax hx k (gx t i) (gx u i) rSameRule e27 ) (by first | rfl | simp only [c12, c22, c29, c36]), Pure.clr (sr25_SameRule_ok ax hx k (gx t i) (gx u i) rSameRule2 e28 ) (by first | rfl | simp only [c12, c22, c29, c36]), trivial⟩
     clear hh h
     intro h hh
     repeat apply TW.seq
     refine ct hh ?_
     repeat apply TW.seq
     refine rk [8] [] (f3 hh c12 (f3 c22 c29 c36)) ?_
     clear hh h
     intro h hh
     cases H1
     obtain rfl := sinl H
     exact rt hh
    rcases isb H1 with ⟨c30, H1⟩ | ⟨c30, H1⟩
    rotate_left
    ·skip
     repeat apply TW.seq
     refine dk 35 [2, 3, 75, 76, 116] [.bool rSameRule, .bool rSameRule2] [] [] (f3 hh (decide_eq_true c24) (f3 c29 c30 (f3 c12 c22 (f2 (gx_some g25) (gx_some g26))))) ?_ trivial ?_
     ·exact ⟨Pure.clr (stable_SameRule_ok ax hx k (gx t i) (gx u i) rSameRule e27 ) (by first | rfl | simp only [c12, c22, c29, c30]), Pure.clr (sr25_SameRule_ok ax hx k (gx t i) (gx u i) rSameRule2 e28 ) (by first | rfl | simp only [c12, c22, c29, c30]), trivial⟩
     clear hh h
     intro h hh
     repeat apply TW.seq
     refine ct hh ?_
     repeat apply TW.seq
     refine rk [8] [] (f3 hh c12 (f3 c22 c29 c30)) ?_
     clear hh h
     intro h hh
     cases H1
     obtain rfl := sinl H
     exact rt hh
    obtain ⟨rDrops, e31, H1⟩ := bsome H1
    obtain ⟨rDrops2, e32, H1⟩ := bsome H1
    rcases isb H1 with ⟨c33, H1⟩ | ⟨c33, H1⟩
    rotate_left
    ·skip
     rcases isb H1 with ⟨c35, H1⟩ | ⟨c35, H1⟩
     rotate_left
     ·skip
      repeat apply TW.seq
      refine dk 35 [2, 3, 75, 76, 116] [.bool rSameRule, .bool rSameRule2, .bool rDrops] [] [(.bool rDrops2, stL [.cells true 3 [lNode n.nodes, lLink n.links, lEdge n.edges]])] (f3 hh (decide_eq_true c24) (f3 c29 c30 (f3 c33 c35 (f3 c12 c22 (f2 (gx_some g25) (gx_some g26)))))) ?_ ?_ ?_
      ·exact ⟨Pure.clr (stable_SameRule_ok ax hx k (gx t i) (gx u i) rSameRule e27 ) (by first | rfl | simp only [c12, c22, c29, c30, c33, c35]), Pure.clr (sr25_SameRule_ok ax hx k (gx t i) (gx u i) rSameRule2 e28 ) (by first | rfl | simp only [c12, c22, c29, c30, c33, c35]), Pure.clr (stable_Drops_ok ax hx k (gx t i) rDrops e31 ) (by first | rfl | simp only [c12, c22, c29, c30, c33, c35]), trivial⟩
      ·exact ⟨Call0.call (Pure.clr (sr25_Drops_ok ax hx k (gx t i) rDrops2 e32 ) (by first | rfl | simp only [c12, c22, c29, c30, c33, c35])), trivial⟩
      clear hh h
      intro h hh
      repeat apply TW.seq
      refine cf hh ?_
      repeat apply TW.seq
      refine sk ?_
      repeat apply TW.seq
      refine rk [2, 3, 75, 76] [] (f3 hh c12 (f3 c22 c29 (f3 c30 c33 c35))) ?_
      clear hh h
      intro h hh
      exact rd m hh ⟨(IntKind.i64.wrap (i + 1)), H1, kq hh, rfl⟩
     repeat apply TW.seq
     refine dk 35 [2, 3, 75, 76, 116] [.bool rSameRule, .bool rSameRule2, .bool rDrops] [] [(.bool rDrops2, stL [.cells true 3 [lNode n.nodes, lLink n.links, lEdge n.edges]])] (f3 hh (decide_eq_true c24) (f3 c29 c30 (f3 c33 c35 (f3 c12 c22 (f2 (gx_some g25) (gx_some g26)))))) ?_ ?_ ?_
     ·exact ⟨Pure.clr (stable_SameRule_ok ax hx k (gx t i) (gx u i) rSameRule e27 ) (by first | rfl | simp only [c12, c22, c29, c30, c33, c35]), Pure.clr (sr25_SameRule_ok ax hx k (gx t i) (gx u i) rSameRule2 e28 ) (by first | rfl | simp only [c12, c22, c29, c30, c33, c35]), Pure.clr (stable_Drops_ok ax hx k (gx t i) rDrops e31 ) (by first | rfl | simp only [c12, c22, c29, c30, c33, c35]), trivial⟩
     ·exact ⟨Call0.call (Pure.clr (sr25_Drops_ok ax hx k (gx t i) rDrops2 e32 ) (by first | rfl | simp only [c12, c22, c29, c30, c33, c35])), trivial⟩
     clear hh h
     intro h hh
     repeat apply TW.seq
     refine ct hh ?_
     repeat apply TW.seq
     refine rk [8] [] (f3 hh c12 (f3 c22 c29 (f3 c30 c33 c35))) ?_
     clear hh h
     intro h hh
     cases H1
     obtain rfl := sinl H
     exact rt hh
    rcases isb H1 with ⟨c34, H1⟩ | ⟨c34, H1⟩
    rotate_left
    ·skip
     repeat apply TW.seq
     refine dk 35 [2, 3, 75, 76, 116] [.bool rSameRule, .bool rSameRule2, .bool rDrops] [] [(.bool rDrops2, stL [.cells true 3 [lNode n.nodes, lLink n.links, lEdge n.edges]])] (f3 hh (decide_eq_true c24) (f3 c29 c30 (f3 c33 c34 (f3 c12 c22 (f2 (gx_some g25) (gx_some g26)))))) ?_ ?_ ?_
     ·exact ⟨Pure.clr (stable_SameRule_ok ax hx k (gx t i) (gx u i) rSameRule e27 ) (by first | rfl | simp only [c12, c22, c29, c30, c33, c34]), Pure.clr (sr25_SameRule_ok ax hx k (gx t i) (gx u i) rSameRule2 e28 ) (by first | rfl | simp only [c12, c22, c29, c30, c33, c34]), Pure.clr (stable_Drops_ok ax hx k (gx t i) rDrops e31 ) (by first | rfl | simp only [c12, c22, c29, c30, c33, c34]), trivial⟩
     ·exact ⟨Call0.call (Pure.clr (sr25_Drops_ok ax hx k (gx t i) rDrops2 e32 ) (by first | rfl | simp only [c12, c22, c29, c30, c33, c34])), trivial⟩
     clear hh h
     intro h hh
     repeat apply TW.seq
     refine ct hh ?_
     repeat apply TW.seq
     refine rk [8] [] (f3 hh c12 (f3 c22 c29 (f3 c30 c33 c34))) ?_
     clear hh h
     intro h hh
     cases H1
     obtain rfl := sinl H
     exact rt hh
    repeat apply TW.seq
    refine dk 35 [2, 3, 75, 76, 116] [.bool rSameRule, .bool rSameRule2, .bool rDrops] [] [(.bool rDrops2, stL [.cells true 3 [lNode n.nodes, lLink n.links, lEdge n.edges]])] (f3 hh (decide_eq_true c24) (f3 c29 c30 (f3 c33 c34 (f3 c12 c22 (f2 (gx_some g25) (gx_some g26)))))) ?_ ?_ ?_
    ·exact ⟨Pure.clr (stable_SameRule_ok ax hx k (gx t i) (gx u i) rSameRule e27 ) (by first | rfl | simp only [c12, c22, c29, c30, c33, c34]), Pure.clr (sr25_SameRule_ok ax hx k (gx t i) (gx u i) rSameRule2 e28 ) (by first | rfl | simp only [c12, c22, c29, c30, c33, c34]), Pure.clr (stable_Drops_ok ax hx k (gx t i) rDrops e31 ) (by first | rfl | simp only [c12, c22, c29, c30, c33, c34]), trivial⟩
    ·exact ⟨Call0.call (Pure.clr (sr25_Drops_ok ax hx k (gx t i) rDrops2 e32 ) (by first | rfl | simp only [c12, c22, c29, c30, c33, c34])), trivial⟩
    clear hh h
    intro h hh
    repeat apply TW.seq
    refine cf hh ?_
    repeat apply TW.seq
    refine sk ?_
    repeat apply TW.seq
    refine rk [2, 3, 75, 76] [] (f3 hh c12 (f3 c22 c29 (f3 c30 c33 c34))) ?_
    clear hh h
    intro h hh
    exact rd m hh ⟨(IntKind.i64.wrap (i + 1)), H1, kq hh, rfl⟩
   clear hh h
   rintro h bs ⟨s_3, rfl, hh, rfl⟩
   replace H := sinr H
   repeat apply TW.seq
   refine rkc [8] [] [(.bool true, stL [.cells true 3 [lNode n.nodes, lLink n.links, lEdge n.edges]])] (f3 hh c12 c22) ?_ ?_
   ·exact ⟨Call0.call (Pure.clr hx.san (by first | rfl | simp only [c12, c22])), trivial⟩
   clear hh h
   intro h hh
   cases H
   exact rt hh
  repeat apply TW.seq
  refine ct (f2 hh c22) ?_
  repeat apply TW.seq
  refine rk [8] [] (f3 hh c12 c22) ?_
  clear hh h
  intro h hh
  cases H
  exact rt hh
 repeat apply TW.seq
 refine ct (f2 hh c12) ?_
 repeat apply TW.seq
 refine rkc [8] [] [(.bool true, stL [.cells true 3 [lNode n.nodes, lLink n.links, lEdge n.edges]])] (f2 hh c12) ?_ ?_
 ·exact ⟨Call0.call (Pure.clr hx.san (by first | rfl | simp only [c12])), trivial⟩
 clear hh h
 intro h hh
 cases H
 exact rt hh
end Go.Proofs.YtjgbkegkcbcjaaaGreat
namespace Go.Proofs.YtjgbkegkcbcjaaaGreat
open Go Go.RowKit
theorem drops_eq (k : Nat) (r : Rule) : stable_Drops k r = some (decide (r.step = -1 ∧ r.outs.length = 0)) ∧ sr25_Drops k r = some (decide (r.step = -1 ∧ r.outs.length = 0)) := by
  have : ∀ x : Option Bool, (x = if r.step = -1 then some (decide ((r.outs.length : Int) = 0)) else some false) → x = some (decide (r.step = -1 ∧ r.outs.length = 0)) := by
    rintro x rfl
    by_cases c : r.step = -1
    · rw [if_pos c]; congr 1; rw [decide_eq_decide]; omega
    · rw [if_neg c]; congr 1; exact (decide_eq_false fun h => c h.1).symm
  exact ⟨this _ rfl, this _ rfl⟩
theorem law_Checks25 (n : Net) (steps : Int) (t u : List Rule) (hn : Held n) (ht : okTab t) (hu : okTab u) : ∃ k, sl_TableChecksAsSpecified k n steps t u = some true := by
  refine ⟨big, ?_⟩
  generalize hk0 : big = k
  have hk : big ≤ k := Nat.le_of_eq hk0
  unfold sl_TableChecksAsSpecified
  rcases netOk hk n hn (some true) (some true) ((sr25_Few k t 12).bind fun rFew2 => (if rFew2 = true then (if 4010 < (t.length : Int) then some true else ((sr25_Few k u 12).bind fun rFew3 => some (!rFew3))) else (if (t.length : Int) ≤ 4000 then some true else (if 4010 < (t.length : Int) then some true else ((sr25_Few k u 12).bind fun rFew4 => some (!rFew4)))))) with h | h | ⟨h, hR⟩
  · rw [h]; rfl
  · rw [h]; rfl
  rw [h, r25_Few t 12 ht hk, Option.bind_some, r25_Few u 12 hu hk, Option.bind_some]
  have body : ((stable_Check k n steps t).bind fun rCheck2 => ((sr25_Check k n steps t).bind fun rCheck3 => (((if rCheck2.1 ≠ rCheck3.1 then some true else (if rCheck2.2 ≠ rCheck3.2 then some true else ((stable_Same k t u).bind fun rSame => ((sr25_Same k t u).bind fun rSame2 => (if rSame = true then (if rSame2 = true then some false else some true) else (if rSame2 = true then some true else some false)))))) : Option Bool).bind fun s_2 => (if s_2 = true then some false else ((sl_TableChecksAsSpecified_L0 k t u k 0 : Option (Bool ⊕ Unit)).bind fun o => Sum.elim (fun r => some r) (fun s_3 => some true) o))))) = some true := by
    rw [table_Check n steps t ht hk, Option.bind_some, r25_Check n steps t ht hk, Option.bind_some, if_neg (fun h => h rfl), if_neg (fun h => h rfl), table_Same t u ht hk, r25_Same t u ht hk, Option.bind_some, Option.bind_some]
    rw [loop_all (L := sl_TableChecksAsSpecified_L0 k t u) t false (fun _ => true) ht.1 (fun m j h => by
      have hd := drops_eq k t[j]
      rw [sl_TableChecksAsSpecified_L0, if_pos (lt_cast h)]
      by_cases c : (j : Int) < (u.length : Int)
      · have h2 : j < u.length := by omega
        have ho := ht.2 _ (List.getElem_mem h)
        rw [if_pos c, if_pos ⟨by omega, lt_cast h⟩, if_pos ⟨by omega, c⟩, gx_at h, gx_at h2, table_SameRule _ _ ho hk, r25_SameRule _ _ ho hk, hd.1, hd.2]
        simp only [Option.bind_some]
        cases decide (t[j] = u[j]) <;> cases decide (t[j].step = -1 ∧ t[j].outs.length = 0) <;> rfl
      · rw [if_neg c, if_pos ⟨by omega, lt_cast h⟩, gx_at h, hd.1, hd.2]
        simp only [Option.bind_some]
        cases decide (t[j].step = -1 ∧ t[j].outs.length = 0) <;> rfl) (fun m => by rw [sl_TableChecksAsSpecified_L0, if_neg (by omega)]) (Nat.lt_of_lt_of_le ht.1 hk), Option.bind_some]
    have e : t.all (fun _ => true) = true := by simp
    rw [e]
    cases decide (t = u) <;> rfl
  cases h1 : fewT t 12 with
  | true =>
    simp only [if_true]
    by_cases c : 4010 < (t.length : Int)
    · rw [if_pos c]; rfl
    · rw [if_neg c, Option.bind_some]
      cases fewT u 12 with
      | false => rfl
      | true => exact body
  | false =>
    simp only [Bool.false_eq_true, if_false]
    by_cases c : (t.length : Int) ≤ 4000
    · rw [if_pos c]; rfl
    · rw [if_neg c]
      by_cases c2 : 4010 < (t.length : Int)
      · rw [if_pos c2]; rfl
      · rw [if_neg c2, Option.bind_some]
        cases fewT u 12 with
        | false => rfl
        | true => exact body
end Go.Proofs.YtjgbkegkcbcjaaaGreat
namespace Go.Proofs.YtjgbkegkcbcjaaaGreat
open Go Go.RowKit
theorem heldW {n : Net} (h : wfNet n) : Held n := ⟨fun x hx => (h.1.2 x hx).1, fun x hx => (h.2.2.2 x hx).1⟩
theorem okRuleW {r : Rule} (h : wfRule r) : okRule r := ⟨h.2.2.2.1, fun l hl => (h.2.2.2.2 l hl).1⟩
theorem okTabW {t : List Rule} (h : t.length < big ∧ ∀ y, y ∈ t → wfRule y) : okTab t := ⟨h.1, fun r hr => okRuleW (h.2 r hr)⟩
end Go.Proofs.YtjgbkegkcbcjaaaGreat
namespace Go.Proofs.YtjgbkegkcbcjaaaGreat
open Go Go.RowKit
theorem law1w (n : Net) (steps : Int) (t u : List Rule) (wn : wfNet n) (ws : inI steps) (wt : t.length < big ∧ ∀ y, y ∈ t → wfRule y) (wu : u.length < big ∧ ∀ y, y ∈ u → wfRule y) : ∃ k, sl_TableChecksAsSpecified k n steps t u = some true :=
  law_Checks25 n steps t u (heldW wn) (okTabW wt) (okTabW wu)
end Go.Proofs.YtjgbkegkcbcjaaaGreat
