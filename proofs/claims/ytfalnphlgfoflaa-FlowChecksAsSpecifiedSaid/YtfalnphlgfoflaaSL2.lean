/- Functions as plain functions, and that the code computes them. -/
import Derived.Test.YtfalnphlgfoflaaSD
import Derived.Test.YtfalnphlgfoflaaSC
namespace Go.Proofs.Ytfalnphlgfoflaa
open Go Go.RowKit
set_option linter.unusedSimpArgs false
set_option linter.unusedVariables false
set_option linter.unusedSectionVars false
set_option maxRecDepth 100000
def sl_FlowChecksAsSpecified_L0 (k : Nat) (l : List Strand) : Nat → Int → Option (Bool ⊕ Unit)
 | 0, _ => none
 | m + 1, i => (if i < (l.length : Int) then (if (0 : Int) ≤ i ∧ i < (l.length : Int) then (if 40 < (((gx l i).links).length : Int) then some (.inl true) else sl_FlowChecksAsSpecified_L0 k l m (IntKind.i64.wrap (i + 1))) else none) else some (.inr ()))
def sl_FlowChecksAsSpecified (k : Nat) (n : Net) (f_ : Failure) (from_ : Int) (to_ : Int) (x : List Int) (cut : List Int) (prices : List Int) (pot : List Int) (l : List Strand) : Option Bool := ((((sl_right k n f_ from_ to_).bind fun rright => (if rright = true then (if 40 < (x.length : Int) then some true else (if 40 < (cut.length : Int) then some true else (if 40 < (prices.length : Int) then some true else (if 40 < (pot.length : Int) then some true else some (decide (40 < (l.length : Int))))))) else some true)) : Option Bool).bind fun s_ => (if s_ = true then some true else ((sflow_Check k n f_ from_ to_ x).bind fun rCheck => ((sr22_Check k n f_ from_ to_ x).bind fun rCheck2 => (((if rCheck.1 ≠ rCheck2.1 then some (rCheck.2, true) else (if rCheck.2 = true then (if rCheck2.2 = true then ((sflow_Greatest k n f_ from_ to_ x cut).bind fun rGreatest => ((sr22_Greatest k n f_ from_ to_ x cut).bind fun rGreatest2 => (if rGreatest = true then (if rGreatest2 = true then ((sflow_Cheapest k n f_ prices from_ to_ x pot).bind fun rCheapest => ((sr22_Cheapest k n f_ prices from_ to_ x pot).bind fun rCheapest2 => (if rCheapest = true then (if rCheapest2 = true then some (true, false) else some (true, true)) else (if rCheapest2 = true then some (true, true) else some (true, false))))) else some (true, true)) else (if rGreatest2 = true then some (true, true) else ((sflow_Cheapest k n f_ prices from_ to_ x pot).bind fun rCheapest3 => ((sr22_Cheapest k n f_ prices from_ to_ x pot).bind fun rCheapest4 => (if rCheapest3 = true then (if rCheapest4 = true then some (true, false) else some (true, true)) else (if rCheapest4 = true then some (true, true) else some (true, false))))))))) else some (true, true)) else (if rCheck2.2 = true then some (false, true) else ((sflow_Greatest k n f_ from_ to_ x cut).bind fun rGreatest3 => ((sr22_Greatest k n f_ from_ to_ x cut).bind fun rGreatest4 => (if rGreatest3 = true then (if rGreatest4 = true then ((sflow_Cheapest k n f_ prices from_ to_ x pot).bind fun rCheapest5 => ((sr22_Cheapest k n f_ prices from_ to_ x pot).bind fun rCheapest6 => (if rCheapest5 = true then (if rCheapest6 = true then some (false, false) else some (false, true)) else (if rCheapest6 = true then some (false, true) else some (false, false))))) else some (false, true)) else (if rGreatest4 = true then some (false, true) else ((sflow_Cheapest k n f_ prices from_ to_ x pot).bind fun rCheapest7 => ((sr22_Cheapest k n f_ prices from_ to_ x pot).bind fun rCheapest8 => (if rCheapest7 = true then (if rCheapest8 = true then some (false, false) else some (false, true)) else (if rCheapest8 = true then some (false, true) else some (false, false)))))))))))) : Option (Bool × Bool)).bind fun s_2 => (if s_2.2 = true then some false else ((((sr22_IsCut k n cut).bind fun rIsCut => (if rIsCut = true then ((sflow_Capacity k n f_ cut).bind fun rCapacity => ((sr22_Capacity k n f_ cut).bind fun rCapacity2 => some (decide (rCapacity ≠ rCapacity2)))) else some false)) : Option Bool).bind fun s_3 => (if s_3 = true then some false else (if s_2.1 = true then ((((sr22_Prices k n prices).bind fun rPrices => (if rPrices = true then ((sflow_Cost k prices x).bind fun rCost => ((sr22_Cost k prices x).bind fun rCost2 => some (decide (rCost ≠ rCost2)))) else some false)) : Option Bool).bind fun s_4 => (if s_4 = true then some false else ((sl_FlowChecksAsSpecified_L0 k l k 0 : Option (Bool ⊕ Unit)).bind fun o => Sum.elim (fun r => some r) (fun s_5 => ((sflow_Strands k n from_ to_ x l).bind fun rStrands => ((sr22_Strands k n from_ to_ x l).bind fun rStrands2 => (if rStrands = true then (if rStrands2 = true then some true else some false) else (if rStrands2 = true then some false else some true))))) o))) else some true)))))))))
set_option maxHeartbeats 8000000 in
theorem sl_FlowChecksAsSpecified_ok (ax : Axs) (hx : Plain ax) (k : Nat) (n : Net) (f_ : Failure) (from_ : Int) (to_ : Int) (x : List Int) (cut : List Int) (prices : List Int) (pot : List Int) (l : List Strand) (v : Bool) (H : sl_FlowChecksAsSpecified k n f_ from_ to_ x cut prices pot l = some v) : Pure Try.prog (EE ax) [] 3 [eNet n, eFail f_, .int .i64 from_, .int .i64 to_, ints x, ints cut, ints prices, ints pot, lStrands l] (.bool v) := by
 rw [sl_FlowChecksAsSpecified] at H
 refine en [.tmp 18] 176 [0, 1, 2, 3, 4, 5, 6, 7, 8] (hx.no _ (by decide)) (fn3 ax) ?_
 intro h hh
 repeat apply TW.seq
 refine rk [2, 3, 4, 5, 6, 7, 8, 9, 10] [] hh ?_
 clear hh h
 intro h hh
 obtain ⟨s_, H1, H⟩ := bsome H
 repeat apply TW.seq
 refine cu [2, 3, 4, 5, 6, 7, 8, 9, 10, 55] 2 (fun h bs => (h 2 = .int .i64 from_ ∧ h 3 = .int .i64 to_ ∧ h 4 = ints x ∧ h 5 = ints cut ∧ h 6 = ints prices ∧ h 7 = ints pot ∧ h 8 = lStrands l ∧ h 9 = .ptr 0 0 3 ∧ h 10 = .ptr 1 0 2 ∧ h 55 = .bool s_) ∧ bs = [.cells true 3 [lNodes n.nodes, lLinks n.links, lEdges n.edges], .cells true 2 [ints f_.links, .int .i64 f_.node]]) ?_ ?_
 ·skip
  obtain ⟨rright, e1, H1⟩ := bsome H1
  rcases isb H1 with ⟨c2, H1⟩ | ⟨c2, H1⟩
  rotate_left
  ·skip
   repeat apply TW.seq
   refine rkc [2, 3, 4, 5, 6, 7, 8, 9, 10, 55] [] [(.bool rright, stL [.cells true 3 [lNodes n.nodes, lLinks n.links, lEdges n.edges], .cells true 2 [ints f_.links, .int .i64 f_.node]])] (f2 hh c2) ?_ ?_
   ·exact ⟨Call0.call (Pure.clr (sl_right_ok ax hx k n f_ from_ to_ rright e1 ) (by first | rfl | simp only [c2])), trivial⟩
   clear hh h
   intro h hh
   cases H1
   exact ce hh ⟨kq hh, rfl⟩
  rcases isp H1 with ⟨c3, H1⟩ | ⟨c3, H1⟩
  rotate_left
  ·skip
   rcases isp H1 with ⟨c4, H1⟩ | ⟨c4, H1⟩
   rotate_left
   ·skip
    rcases isp H1 with ⟨c5, H1⟩ | ⟨c5, H1⟩
    rotate_left
    ·skip
     rcases isp H1 with ⟨c6, H1⟩ | ⟨c6, H1⟩
     rotate_left
     ·skip
      repeat apply TW.seq
      refine rkc [2, 3, 4, 5, 6, 7, 8, 9, 10, 55] [] [(.bool rright, stL [.cells true 3 [lNodes n.nodes, lLinks n.links, lEdges n.edges], .cells true 2 [ints f_.links, .int .i64 f_.node]])] (f3 hh c2 (f3 (decide_eq_false c3) (decide_eq_false c4) (f2 (decide_eq_false c5) (decide_eq_false c6)))) ?_ ?_
      ·exact ⟨Call0.call (Pure.clr (sl_right_ok ax hx k n f_ from_ to_ rright e1 ) (by first | rfl | simp only [c2])), trivial⟩
      clear hh h
      intro h hh
      cases H1
      exact ce hh ⟨kq hh, rfl⟩
     repeat apply TW.seq
     refine rkc [2, 3, 4, 5, 6, 7, 8, 9, 10, 55] [] [(.bool rright, stL [.cells true 3 [lNodes n.nodes, lLinks n.links, lEdges n.edges], .cells true 2 [ints f_.links, .int .i64 f_.node]])] (f3 hh c2 (f3 (decide_eq_false c3) (decide_eq_false c4) (f2 (decide_eq_false c5) (decide_eq_true c6)))) ?_ ?_
     ·exact ⟨Call0.call (Pure.clr (sl_right_ok ax hx k n f_ from_ to_ rright e1 ) (by first | rfl | simp only [c2])), trivial⟩
     clear hh h
     intro h hh
     cases H1
     exact ce hh ⟨kq hh, rfl⟩
    repeat apply TW.seq
    refine rkc [2, 3, 4, 5, 6, 7, 8, 9, 10, 55] [] [(.bool rright, stL [.cells true 3 [lNodes n.nodes, lLinks n.links, lEdges n.edges], .cells true 2 [ints f_.links, .int .i64 f_.node]])] (f3 hh c2 (f3 (decide_eq_false c3) (decide_eq_false c4) (decide_eq_true c5))) ?_ ?_
    ·exact ⟨Call0.call (Pure.clr (sl_right_ok ax hx k n f_ from_ to_ rright e1 ) (by first | rfl | simp only [c2])), trivial⟩
    clear hh h
    intro h hh
    cases H1
    exact ce hh ⟨kq hh, rfl⟩
   repeat apply TW.seq
   refine rkc [2, 3, 4, 5, 6, 7, 8, 9, 10, 55] [] [(.bool rright, stL [.cells true 3 [lNodes n.nodes, lLinks n.links, lEdges n.edges], .cells true 2 [ints f_.links, .int .i64 f_.node]])] (f3 hh c2 (f2 (decide_eq_false c3) (decide_eq_true c4))) ?_ ?_
   ·exact ⟨Call0.call (Pure.clr (sl_right_ok ax hx k n f_ from_ to_ rright e1 ) (by first | rfl | simp only [c2])), trivial⟩
   clear hh h
   intro h hh
   cases H1
   exact ce hh ⟨kq hh, rfl⟩
  repeat apply TW.seq
  refine rkc [2, 3, 4, 5, 6, 7, 8, 9, 10, 55] [] [(.bool rright, stL [.cells true 3 [lNodes n.nodes, lLinks n.links, lEdges n.edges], .cells true 2 [ints f_.links, .int .i64 f_.node]])] (f3 hh c2 (decide_eq_true c3)) ?_ ?_
  ·exact ⟨Call0.call (Pure.clr (sl_right_ok ax hx k n f_ from_ to_ rright e1 ) (by first | rfl | simp only [c2])), trivial⟩
  clear hh h
  intro h hh
  cases H1
  exact ce hh ⟨kq hh, rfl⟩
 clear hh h
 rintro h bs ⟨hh, rfl⟩
 rcases isb H with ⟨c7, H⟩ | ⟨c7, H⟩
 rotate_left
 ·skip
  repeat apply TW.seq
  refine cf (f2 hh c7) ?_
  repeat apply TW.seq
  refine sk ?_
  obtain ⟨rCheck, e8, H⟩ := bsome H
  repeat apply TW.seq
  refine rkc [2, 3, 4, 5, 6, 7, 8, 9, 10, 19, 20] [] [(.tup [.int .i64 rCheck.1, .bool rCheck.2], stL [.cells true 3 [lNodes n.nodes, lLinks n.links, lEdges n.edges], .cells true 2 [ints f_.links, .int .i64 f_.node]])] (f2 hh c7) ?_ ?_
  ·exact ⟨Call0.call (Pure.clr (sflow_Check_ok ax hx k n f_ from_ to_ x rCheck e8 ) (by first | rfl | simp only [c7])), trivial⟩
  clear hh h
  intro h hh
  obtain ⟨rCheck2, e9, H⟩ := bsome H
  repeat apply TW.seq
  refine rkc [2, 3, 4, 5, 6, 7, 8, 9, 10, 19, 20, 21, 22] [] [(.tup [.int .i64 rCheck2.1, .bool rCheck2.2], stL [.cells true 3 [lNodes n.nodes, lLinks n.links, lEdges n.edges], .cells true 2 [ints f_.links, .int .i64 f_.node]])] (f2 hh c7) ?_ ?_
  ·exact ⟨Call0.call (Pure.clr (sr22_Check_ok ax hx k n f_ from_ to_ x rCheck2 e9 ) (by first | rfl | simp only [c7])), trivial⟩
  clear hh h
  intro h hh
  obtain ⟨s_2, H1, H⟩ := bsome H
  repeat apply TW.seq
  refine cu [2, 3, 4, 5, 6, 8, 9, 10, 20, 118] 2 (fun h bs => (h 2 = .int .i64 from_ ∧ h 3 = .int .i64 to_ ∧ h 4 = ints x ∧ h 5 = ints cut ∧ h 6 = ints prices ∧ h 8 = lStrands l ∧ h 9 = .ptr 0 0 3 ∧ h 10 = .ptr 1 0 2 ∧ h 20 = .bool s_2.1 ∧ h 118 = .bool s_2.2) ∧ bs = [.cells true 3 [lNodes n.nodes, lLinks n.links, lEdges n.edges], .cells true 2 [ints f_.links, .int .i64 f_.node]]) ?_ ?_
  ·skip
   rcases isp H1 with ⟨c10, H1⟩ | ⟨c10, H1⟩
   rotate_left
   ·skip
    rcases isb H1 with ⟨c11, H1⟩ | ⟨c11, H1⟩
    rotate_left
    ·skip
     rcases isb H1 with ⟨c28, H1⟩ | ⟨c28, H1⟩
     rotate_left
     ·skip
      obtain ⟨rGreatest3, e29, H1⟩ := bsome H1
      obtain ⟨rGreatest4, e30, H1⟩ := bsome H1
      rcases isb H1 with ⟨c31, H1⟩ | ⟨c31, H1⟩
      rotate_left
      ·skip
       rcases isb H1 with ⟨c38, H1⟩ | ⟨c38, H1⟩
       rotate_left
       ·skip
        obtain ⟨rCheapest7, e39, H1⟩ := bsome H1
        obtain ⟨rCheapest8, e40, H1⟩ := bsome H1
        rcases isb H1 with ⟨c41, H1⟩ | ⟨c41, H1⟩
        rotate_left
        ·skip
         rcases isb H1 with ⟨c43, H1⟩ | ⟨c43, H1⟩
         rotate_left
         ·skip
          repeat apply TW.seq
          refine dk 36 [2, 3, 4, 5, 6, 8, 9, 10, 20, 118] [.bool rGreatest3, .bool rGreatest4, .bool rCheapest7] [] [(.bool rCheapest8, stL [.cells true 3 [lNodes n.nodes, lLinks n.links, lEdges n.edges], .cells true 2 [ints f_.links, .int .i64 f_.node]])] (f3 hh (decide_eq_false c10) (f3 c11 c28 (f3 c31 c38 (f3 c41 c43 c7)))) ?_ ?_ ?_
          ·exact ⟨Pure.clr (sflow_Greatest_ok ax hx k n f_ from_ to_ x cut rGreatest3 e29 ) (by first | rfl | simp only [c7, c11, c28, c31, c38, c41, c43]), Pure.clr (sr22_Greatest_ok ax hx k n f_ from_ to_ x cut rGreatest4 e30 ) (by first | rfl | simp only [c7, c11, c28, c31, c38, c41, c43]), Pure.clr (sflow_Cheapest_ok ax hx k n f_ prices from_ to_ x pot rCheapest7 e39 ) (by first | rfl | simp only [c7, c11, c28, c31, c38, c41, c43]), trivial⟩
          ·exact ⟨Call0.call (Pure.clr (sr22_Cheapest_ok ax hx k n f_ prices from_ to_ x pot rCheapest8 e40 ) (by first | rfl | simp only [c7, c11, c28, c31, c38, c41, c43])), trivial⟩
          clear hh h
          intro h hh
          cases H1
          exact ce hh ⟨kq (f2 hh c11), rfl⟩
         repeat apply TW.seq
         refine dk 36 [2, 3, 4, 5, 6, 8, 9, 10, 20, 118] [.bool rGreatest3, .bool rGreatest4, .bool rCheapest7] [] [(.bool rCheapest8, stL [.cells true 3 [lNodes n.nodes, lLinks n.links, lEdges n.edges], .cells true 2 [ints f_.links, .int .i64 f_.node]])] (f3 hh (decide_eq_false c10) (f3 c11 c28 (f3 c31 c38 (f3 c41 c43 c7)))) ?_ ?_ ?_
         ·exact ⟨Pure.clr (sflow_Greatest_ok ax hx k n f_ from_ to_ x cut rGreatest3 e29 ) (by first | rfl | simp only [c7, c11, c28, c31, c38, c41, c43]), Pure.clr (sr22_Greatest_ok ax hx k n f_ from_ to_ x cut rGreatest4 e30 ) (by first | rfl | simp only [c7, c11, c28, c31, c38, c41, c43]), Pure.clr (sflow_Cheapest_ok ax hx k n f_ prices from_ to_ x pot rCheapest7 e39 ) (by first | rfl | simp only [c7, c11, c28, c31, c38, c41, c43]), trivial⟩
         ·exact ⟨Call0.call (Pure.clr (sr22_Cheapest_ok ax hx k n f_ prices from_ to_ x pot rCheapest8 e40 ) (by first | rfl | simp only [c7, c11, c28, c31, c38, c41, c43])), trivial⟩
         clear hh h
         intro h hh
         cases H1
         exact ce hh ⟨kq (f2 hh c11), rfl⟩
        rcases isb H1 with ⟨c42, H1⟩ | ⟨c42, H1⟩
        rotate_left
        ·skip
         repeat apply TW.seq
         refine dk 36 [2, 3, 4, 5, 6, 8, 9, 10, 20, 118] [.bool rGreatest3, .bool rGreatest4, .bool rCheapest7] [] [(.bool rCheapest8, stL [.cells true 3 [lNodes n.nodes, lLinks n.links, lEdges n.edges], .cells true 2 [ints f_.links, .int .i64 f_.node]])] (f3 hh (decide_eq_false c10) (f3 c11 c28 (f3 c31 c38 (f3 c41 c42 c7)))) ?_ ?_ ?_
         ·exact ⟨Pure.clr (sflow_Greatest_ok ax hx k n f_ from_ to_ x cut rGreatest3 e29 ) (by first | rfl | simp only [c7, c11, c28, c31, c38, c41, c42]), Pure.clr (sr22_Greatest_ok ax hx k n f_ from_ to_ x cut rGreatest4 e30 ) (by first | rfl | simp only [c7, c11, c28, c31, c38, c41, c42]), Pure.clr (sflow_Cheapest_ok ax hx k n f_ prices from_ to_ x pot rCheapest7 e39 ) (by first | rfl | simp only [c7, c11, c28, c31, c38, c41, c42]), trivial⟩
         ·exact ⟨Call0.call (Pure.clr (sr22_Cheapest_ok ax hx k n f_ prices from_ to_ x pot rCheapest8 e40 ) (by first | rfl | simp only [c7, c11, c28, c31, c38, c41, c42])), trivial⟩
         clear hh h
         intro h hh
         cases H1
         exact ce hh ⟨kq (f2 hh c11), rfl⟩
        repeat apply TW.seq
        refine dk 36 [2, 3, 4, 5, 6, 8, 9, 10, 20, 118] [.bool rGreatest3, .bool rGreatest4, .bool rCheapest7] [] [(.bool rCheapest8, stL [.cells true 3 [lNodes n.nodes, lLinks n.links, lEdges n.edges], .cells true 2 [ints f_.links, .int .i64 f_.node]])] (f3 hh (decide_eq_false c10) (f3 c11 c28 (f3 c31 c38 (f3 c41 c42 c7)))) ?_ ?_ ?_
        ·exact ⟨Pure.clr (sflow_Greatest_ok ax hx k n f_ from_ to_ x cut rGreatest3 e29 ) (by first | rfl | simp only [c7, c11, c28, c31, c38, c41, c42]), Pure.clr (sr22_Greatest_ok ax hx k n f_ from_ to_ x cut rGreatest4 e30 ) (by first | rfl | simp only [c7, c11, c28, c31, c38, c41, c42]), Pure.clr (sflow_Cheapest_ok ax hx k n f_ prices from_ to_ x pot rCheapest7 e39 ) (by first | rfl | simp only [c7, c11, c28, c31, c38, c41, c42]), trivial⟩
        ·exact ⟨Call0.call (Pure.clr (sr22_Cheapest_ok ax hx k n f_ prices from_ to_ x pot rCheapest8 e40 ) (by first | rfl | simp only [c7, c11, c28, c31, c38, c41, c42])), trivial⟩
        clear hh h
        intro h hh
        cases H1
        exact ce hh ⟨kq (f2 hh c11), rfl⟩
       repeat apply TW.seq
       refine dk 36 [2, 3, 4, 5, 6, 8, 9, 10, 20, 118] [.bool rGreatest3, .bool rGreatest4] [] [] (f3 hh (decide_eq_false c10) (f3 c11 c28 (f3 c31 c38 c7))) ?_ trivial ?_
       ·exact ⟨Pure.clr (sflow_Greatest_ok ax hx k n f_ from_ to_ x cut rGreatest3 e29 ) (by first | rfl | simp only [c7, c11, c28, c31, c38]), Pure.clr (sr22_Greatest_ok ax hx k n f_ from_ to_ x cut rGreatest4 e30 ) (by first | rfl | simp only [c7, c11, c28, c31, c38]), trivial⟩
       clear hh h
       intro h hh
       cases H1
       exact ce hh ⟨kq (f2 hh c11), rfl⟩
      rcases isb H1 with ⟨c32, H1⟩ | ⟨c32, H1⟩
      rotate_left
      ·skip
       repeat apply TW.seq
       refine dk 36 [2, 3, 4, 5, 6, 8, 9, 10, 20, 118] [.bool rGreatest3, .bool rGreatest4] [] [] (f3 hh (decide_eq_false c10) (f3 c11 c28 (f3 c31 c32 c7))) ?_ trivial ?_
       ·exact ⟨Pure.clr (sflow_Greatest_ok ax hx k n f_ from_ to_ x cut rGreatest3 e29 ) (by first | rfl | simp only [c7, c11, c28, c31, c32]), Pure.clr (sr22_Greatest_ok ax hx k n f_ from_ to_ x cut rGreatest4 e30 ) (by first | rfl | simp only [c7, c11, c28, c31, c32]), trivial⟩
       clear hh h
       intro h hh
       cases H1
       exact ce hh ⟨kq (f2 hh c11), rfl⟩
      obtain ⟨rCheapest5, e33, H1⟩ := bsome H1
      obtain ⟨rCheapest6, e34, H1⟩ := bsome H1
      rcases isb H1 with ⟨c35, H1⟩ | ⟨c35, H1⟩
      rotate_left
      ·skip
       rcases isb H1 with ⟨c37, H1⟩ | ⟨c37, H1⟩
       rotate_left
       ·skip
        repeat apply TW.seq
        refine dk 36 [2, 3, 4, 5, 6, 8, 9, 10, 20, 118] [.bool rGreatest3, .bool rGreatest4, .bool rCheapest5] [] [(.bool rCheapest6, stL [.cells true 3 [lNodes n.nodes, lLinks n.links, lEdges n.edges], .cells true 2 [ints f_.links, .int .i64 f_.node]])] (f3 hh (decide_eq_false c10) (f3 c11 c28 (f3 c31 c32 (f3 c35 c37 c7)))) ?_ ?_ ?_
        ·exact ⟨Pure.clr (sflow_Greatest_ok ax hx k n f_ from_ to_ x cut rGreatest3 e29 ) (by first | rfl | simp only [c7, c11, c28, c31, c32, c35, c37]), Pure.clr (sr22_Greatest_ok ax hx k n f_ from_ to_ x cut rGreatest4 e30 ) (by first | rfl | simp only [c7, c11, c28, c31, c32, c35, c37]), Pure.clr (sflow_Cheapest_ok ax hx k n f_ prices from_ to_ x pot rCheapest5 e33 ) (by first | rfl | simp only [c7, c11, c28, c31, c32, c35, c37]), trivial⟩
        ·exact ⟨Call0.call (Pure.clr (sr22_Cheapest_ok ax hx k n f_ prices from_ to_ x pot rCheapest6 e34 ) (by first | rfl | simp only [c7, c11, c28, c31, c32, c35, c37])), trivial⟩
        clear hh h
        intro h hh
        cases H1
        exact ce hh ⟨kq (f2 hh c11), rfl⟩
       repeat apply TW.seq
       refine dk 36 [2, 3, 4, 5, 6, 8, 9, 10, 20, 118] [.bool rGreatest3, .bool rGreatest4, .bool rCheapest5] [] [(.bool rCheapest6, stL [.cells true 3 [lNodes n.nodes, lLinks n.links, lEdges n.edges], .cells true 2 [ints f_.links, .int .i64 f_.node]])] (f3 hh (decide_eq_false c10) (f3 c11 c28 (f3 c31 c32 (f3 c35 c37 c7)))) ?_ ?_ ?_
       ·exact ⟨Pure.clr (sflow_Greatest_ok ax hx k n f_ from_ to_ x cut rGreatest3 e29 ) (by first | rfl | simp only [c7, c11, c28, c31, c32, c35, c37]), Pure.clr (sr22_Greatest_ok ax hx k n f_ from_ to_ x cut rGreatest4 e30 ) (by first | rfl | simp only [c7, c11, c28, c31, c32, c35, c37]), Pure.clr (sflow_Cheapest_ok ax hx k n f_ prices from_ to_ x pot rCheapest5 e33 ) (by first | rfl | simp only [c7, c11, c28, c31, c32, c35, c37]), trivial⟩
       ·exact ⟨Call0.call (Pure.clr (sr22_Cheapest_ok ax hx k n f_ prices from_ to_ x pot rCheapest6 e34 ) (by first | rfl | simp only [c7, c11, c28, c31, c32, c35, c37])), trivial⟩
       clear hh h
       intro h hh
       cases H1
       exact ce hh ⟨kq (f2 hh c11), rfl⟩
      rcases isb H1 with ⟨c36, H1⟩ | ⟨c36, H1⟩
      rotate_left
      ·skip
       repeat apply TW.seq
       refine dk 36 [2, 3, 4, 5, 6, 8, 9, 10, 20, 118] [.bool rGreatest3, .bool rGreatest4, .bool rCheapest5] [] [(.bool rCheapest6, stL [.cells true 3 [lNodes n.nodes, lLinks n.links, lEdges n.edges], .cells true 2 [ints f_.links, .int .i64 f_.node]])] (f3 hh (decide_eq_false c10) (f3 c11 c28 (f3 c31 c32 (f3 c35 c36 c7)))) ?_ ?_ ?_
       ·exact ⟨Pure.clr (sflow_Greatest_ok ax hx k n f_ from_ to_ x cut rGreatest3 e29 ) (by first | rfl | simp only [c7, c11, c28, c31, c32, c35, c36]), Pure.clr (sr22_Greatest_ok ax hx k n f_ from_ to_ x cut rGreatest4 e30 ) (by first | rfl | simp only [c7, c11, c28, c31, c32, c35, c36]), Pure.clr (sflow_Cheapest_ok ax hx k n f_ prices from_ to_ x pot rCheapest5 e33 ) (by first | rfl | simp only [c7, c11, c28, c31, c32, c35, c36]), trivial⟩
       ·exact ⟨Call0.call (Pure.clr (sr22_Cheapest_ok ax hx k n f_ prices from_ to_ x pot rCheapest6 e34 ) (by first | rfl | simp only [c7, c11, c28, c31, c32, c35, c36])), trivial⟩
       clear hh h
       intro h hh
       cases H1
       exact ce hh ⟨kq (f2 hh c11), rfl⟩
      repeat apply TW.seq
      refine dk 36 [2, 3, 4, 5, 6, 8, 9, 10, 20, 118] [.bool rGreatest3, .bool rGreatest4, .bool rCheapest5] [] [(.bool rCheapest6, stL [.cells true 3 [lNodes n.nodes, lLinks n.links, lEdges n.edges], .cells true 2 [ints f_.links, .int .i64 f_.node]])] (f3 hh (decide_eq_false c10) (f3 c11 c28 (f3 c31 c32 (f3 c35 c36 c7)))) ?_ ?_ ?_
      ·exact ⟨Pure.clr (sflow_Greatest_ok ax hx k n f_ from_ to_ x cut rGreatest3 e29 ) (by first | rfl | simp only [c7, c11, c28, c31, c32, c35, c36]), Pure.clr (sr22_Greatest_ok ax hx k n f_ from_ to_ x cut rGreatest4 e30 ) (by first | rfl | simp only [c7, c11, c28, c31, c32, c35, c36]), Pure.clr (sflow_Cheapest_ok ax hx k n f_ prices from_ to_ x pot rCheapest5 e33 ) (by first | rfl | simp only [c7, c11, c28, c31, c32, c35, c36]), trivial⟩
      ·exact ⟨Call0.call (Pure.clr (sr22_Cheapest_ok ax hx k n f_ prices from_ to_ x pot rCheapest6 e34 ) (by first | rfl | simp only [c7, c11, c28, c31, c32, c35, c36])), trivial⟩
      clear hh h
      intro h hh
      cases H1
      exact ce hh ⟨kq (f2 hh c11), rfl⟩
     repeat apply TW.seq
     refine dk 36 [2, 3, 4, 5, 6, 8, 9, 10, 20, 118] [] [] [] (f3 hh (decide_eq_false c10) (f3 c11 c28 c7)) trivial trivial ?_
     clear hh h
     intro h hh
     cases H1
     exact ce hh ⟨kq (f2 hh c11), rfl⟩
    rcases isb H1 with ⟨c12, H1⟩ | ⟨c12, H1⟩
    rotate_left
    ·skip
     repeat apply TW.seq
     refine dk 36 [2, 3, 4, 5, 6, 8, 9, 10, 20, 118] [] [] [] (f3 hh (decide_eq_false c10) (f3 c11 c12 c7)) trivial trivial ?_
     clear hh h
     intro h hh
     cases H1
     exact ce hh ⟨kq (f2 hh c11), rfl⟩
    obtain ⟨rGreatest, e13, H1⟩ := bsome H1
    obtain ⟨rGreatest2, e14, H1⟩ := bsome H1
    rcases isb H1 with ⟨c15, H1⟩ | ⟨c15, H1⟩
    rotate_left
    ·skip
     rcases isb H1 with ⟨c22, H1⟩ | ⟨c22, H1⟩
     rotate_left
     ·skip
      obtain ⟨rCheapest3, e23, H1⟩ := bsome H1
      obtain ⟨rCheapest4, e24, H1⟩ := bsome H1
      rcases isb H1 with ⟨c25, H1⟩ | ⟨c25, H1⟩
      rotate_left
      ·skip
       rcases isb H1 with ⟨c27, H1⟩ | ⟨c27, H1⟩
       rotate_left
       ·skip
        repeat apply TW.seq
        refine dk 36 [2, 3, 4, 5, 6, 8, 9, 10, 20, 118] [.bool rGreatest, .bool rGreatest2, .bool rCheapest3] [] [(.bool rCheapest4, stL [.cells true 3 [lNodes n.nodes, lLinks n.links, lEdges n.edges], .cells true 2 [ints f_.links, .int .i64 f_.node]])] (f3 hh (decide_eq_false c10) (f3 c11 c12 (f3 c15 c22 (f3 c25 c27 c7)))) ?_ ?_ ?_
        ·exact ⟨Pure.clr (sflow_Greatest_ok ax hx k n f_ from_ to_ x cut rGreatest e13 ) (by first | rfl | simp only [c7, c11, c12, c15, c22, c25, c27]), Pure.clr (sr22_Greatest_ok ax hx k n f_ from_ to_ x cut rGreatest2 e14 ) (by first | rfl | simp only [c7, c11, c12, c15, c22, c25, c27]), Pure.clr (sflow_Cheapest_ok ax hx k n f_ prices from_ to_ x pot rCheapest3 e23 ) (by first | rfl | simp only [c7, c11, c12, c15, c22, c25, c27]), trivial⟩
        ·exact ⟨Call0.call (Pure.clr (sr22_Cheapest_ok ax hx k n f_ prices from_ to_ x pot rCheapest4 e24 ) (by first | rfl | simp only [c7, c11, c12, c15, c22, c25, c27])), trivial⟩
        clear hh h
        intro h hh
        cases H1
        exact ce hh ⟨kq (f2 hh c11), rfl⟩
       repeat apply TW.seq
       refine dk 36 [2, 3, 4, 5, 6, 8, 9, 10, 20, 118] [.bool rGreatest, .bool rGreatest2, .bool rCheapest3] [] [(.bool rCheapest4, stL [.cells true 3 [lNodes n.nodes, lLinks n.links, lEdges n.edges], .cells true 2 [ints f_.links, .int .i64 f_.node]])] (f3 hh (decide_eq_false c10) (f3 c11 c12 (f3 c15 c22 (f3 c25 c27 c7)))) ?_ ?_ ?_
       ·exact ⟨Pure.clr (sflow_Greatest_ok ax hx k n f_ from_ to_ x cut rGreatest e13 ) (by first | rfl | simp only [c7, c11, c12, c15, c22, c25, c27]), Pure.clr (sr22_Greatest_ok ax hx k n f_ from_ to_ x cut rGreatest2 e14 ) (by first | rfl | simp only [c7, c11, c12, c15, c22, c25, c27]), Pure.clr (sflow_Cheapest_ok ax hx k n f_ prices from_ to_ x pot rCheapest3 e23 ) (by first | rfl | simp only [c7, c11, c12, c15, c22, c25, c27]), trivial⟩
       ·exact ⟨Call0.call (Pure.clr (sr22_Cheapest_ok ax hx k n f_ prices from_ to_ x pot rCheapest4 e24 ) (by first | rfl | simp only [c7, c11, c12, c15, c22, c25, c27])), trivial⟩
       clear hh h
       intro h hh
       cases H1
       exact ce hh ⟨kq (f2 hh c11), rfl⟩
      rcases isb H1 with ⟨c26, H1⟩ | ⟨c26, H1⟩
      rotate_left
      ·skip
       repeat apply TW.seq
       refine dk 36 [2, 3, 4, 5, 6, 8, 9, 10, 20, 118] [.bool rGreatest, .bool rGreatest2, .bool rCheapest3] [] [(.bool rCheapest4, stL [.cells true 3 [lNodes n.nodes, lLinks n.links, lEdges n.edges], .cells true 2 [ints f_.links, .int .i64 f_.node]])] (f3 hh (decide_eq_false c10) (f3 c11 c12 (f3 c15 c22 (f3 c25 c26 c7)))) ?_ ?_ ?_
       ·exact ⟨Pure.clr (sflow_Greatest_ok ax hx k n f_ from_ to_ x cut rGreatest e13 ) (by first | rfl | simp only [c7, c11, c12, c15, c22, c25, c26]), Pure.clr (sr22_Greatest_ok ax hx k n f_ from_ to_ x cut rGreatest2 e14 ) (by first | rfl | simp only [c7, c11, c12, c15, c22, c25, c26]), Pure.clr (sflow_Cheapest_ok ax hx k n f_ prices from_ to_ x pot rCheapest3 e23 ) (by first | rfl | simp only [c7, c11, c12, c15, c22, c25, c26]), trivial⟩
       ·exact ⟨Call0.call (Pure.clr (sr22_Cheapest_ok ax hx k n f_ prices from_ to_ x pot rCheapest4 e24 ) (by first | rfl | simp only [c7, c11, c12, c15, c22, c25, c26])), trivial⟩
       clear hh h
       intro h hh
       cases H1
       exact ce hh ⟨kq (f2 hh c11), rfl⟩
      repeat apply TW.seq
      refine dk 36 [2, 3, 4, 5, 6, 8, 9, 10, 20, 118] [.bool rGreatest, .bool rGreatest2, .bool rCheapest3] [] [(.bool rCheapest4, stL [.cells true 3 [lNodes n.nodes, lLinks n.links, lEdges n.edges], .cells true 2 [ints f_.links, .int .i64 f_.node]])] (f3 hh (decide_eq_false c10) (f3 c11 c12 (f3 c15 c22 (f3 c25 c26 c7)))) ?_ ?_ ?_
      ·exact ⟨Pure.clr (sflow_Greatest_ok ax hx k n f_ from_ to_ x cut rGreatest e13 ) (by first | rfl | simp only [c7, c11, c12, c15, c22, c25, c26]), Pure.clr (sr22_Greatest_ok ax hx k n f_ from_ to_ x cut rGreatest2 e14 ) (by first | rfl | simp only [c7, c11, c12, c15, c22, c25, c26]), Pure.clr (sflow_Cheapest_ok ax hx k n f_ prices from_ to_ x pot rCheapest3 e23 ) (by first | rfl | simp only [c7, c11, c12, c15, c22, c25, c26]), trivial⟩
      ·exact ⟨Call0.call (Pure.clr (sr22_Cheapest_ok ax hx k n f_ prices from_ to_ x pot rCheapest4 e24 ) (by first | rfl | simp only [c7, c11, c12, c15, c22, c25, c26])), trivial⟩
      clear hh h
      intro h hh
      cases H1
      exact ce hh ⟨kq (f2 hh c11), rfl⟩
     repeat apply TW.seq
     refine dk 36 [2, 3, 4, 5, 6, 8, 9, 10, 20, 118] [.bool rGreatest, .bool rGreatest2] [] [] (f3 hh (decide_eq_false c10) (f3 c11 c12 (f3 c15 c22 c7))) ?_ trivial ?_
     ·exact ⟨Pure.clr (sflow_Greatest_ok ax hx k n f_ from_ to_ x cut rGreatest e13 ) (by first | rfl | simp only [c7, c11, c12, c15, c22]), Pure.clr (sr22_Greatest_ok ax hx k n f_ from_ to_ x cut rGreatest2 e14 ) (by first | rfl | simp only [c7, c11, c12, c15, c22]), trivial⟩
     clear hh h
     intro h hh
     cases H1
     exact ce hh ⟨kq (f2 hh c11), rfl⟩
    rcases isb H1 with ⟨c16, H1⟩ | ⟨c16, H1⟩
    rotate_left
    ·skip
     repeat apply TW.seq
     refine dk 36 [2, 3, 4, 5, 6, 8, 9, 10, 20, 118] [.bool rGreatest, .bool rGreatest2] [] [] (f3 hh (decide_eq_false c10) (f3 c11 c12 (f3 c15 c16 c7))) ?_ trivial ?_
     ·exact ⟨Pure.clr (sflow_Greatest_ok ax hx k n f_ from_ to_ x cut rGreatest e13 ) (by first | rfl | simp only [c7, c11, c12, c15, c16]), Pure.clr (sr22_Greatest_ok ax hx k n f_ from_ to_ x cut rGreatest2 e14 ) (by first | rfl | simp only [c7, c11, c12, c15, c16]), trivial⟩
     clear hh h
     intro h hh
     cases H1
     exact ce hh ⟨kq (f2 hh c11), rfl⟩
    obtain ⟨rCheapest, e17, H1⟩ := bsome H1
    obtain ⟨rCheapest2, e18, H1⟩ := bsome H1
    rcases isb H1 with ⟨c19, H1⟩ | ⟨c19, H1⟩
    rotate_left
    ·skip
     rcases isb H1 with ⟨c21, H1⟩ | ⟨c21, H1⟩
     rotate_left
     ·skip
      repeat apply TW.seq
      refine dk 36 [2, 3, 4, 5, 6, 8, 9, 10, 20, 118] [.bool rGreatest, .bool rGreatest2, .bool rCheapest] [] [(.bool rCheapest2, stL [.cells true 3 [lNodes n.nodes, lLinks n.links, lEdges n.edges], .cells true 2 [ints f_.links, .int .i64 f_.node]])] (f3 hh (decide_eq_false c10) (f3 c11 c12 (f3 c15 c16 (f3 c19 c21 c7)))) ?_ ?_ ?_
      ·exact ⟨Pure.clr (sflow_Greatest_ok ax hx k n f_ from_ to_ x cut rGreatest e13 ) (by first | rfl | simp only [c7, c11, c12, c15, c16, c19, c21]), Pure.clr (sr22_Greatest_ok ax hx k n f_ from_ to_ x cut rGreatest2 e14 ) (by first | rfl | simp only [c7, c11, c12, c15, c16, c19, c21]), Pure.clr (sflow_Cheapest_ok ax hx k n f_ prices from_ to_ x pot rCheapest e17 ) (by first | rfl | simp only [c7, c11, c12, c15, c16, c19, c21]), trivial⟩
      ·exact ⟨Call0.call (Pure.clr (sr22_Cheapest_ok ax hx k n f_ prices from_ to_ x pot rCheapest2 e18 ) (by first | rfl | simp only [c7, c11, c12, c15, c16, c19, c21])), trivial⟩
      clear hh h
      intro h hh
      cases H1
      exact ce hh ⟨kq (f2 hh c11), rfl⟩
     repeat apply TW.seq
     refine dk 36 [2, 3, 4, 5, 6, 8, 9, 10, 20, 118] [.bool rGreatest, .bool rGreatest2, .bool rCheapest] [] [(.bool rCheapest2, stL [.cells true 3 [lNodes n.nodes, lLinks n.links, lEdges n.edges], .cells true 2 [ints f_.links, .int .i64 f_.node]])] (f3 hh (decide_eq_false c10) (f3 c11 c12 (f3 c15 c16 (f3 c19 c21 c7)))) ?_ ?_ ?_
     ·exact ⟨Pure.clr (sflow_Greatest_ok ax hx k n f_ from_ to_ x cut rGreatest e13 ) (by first | rfl | simp only [c7, c11, c12, c15, c16, c19, c21]), Pure.clr (sr22_Greatest_ok ax hx k n f_ from_ to_ x cut rGreatest2 e14 ) (by first | rfl | simp only [c7, c11, c12, c15, c16, c19, c21]), Pure.clr (sflow_Cheapest_ok ax hx k n f_ prices from_ to_ x pot rCheapest e17 ) (by first | rfl | simp only [c7, c11, c12, c15, c16, c19, c21]), trivial⟩
     ·exact ⟨Call0.call (Pure.clr (sr22_Cheapest_ok ax hx k n f_ prices from_ to_ x pot rCheapest2 e18 ) (by first | rfl | simp only [c7, c11, c12, c15, c16, c19, c21])), trivial⟩
     clear hh h
     intro h hh
     cases H1
     exact ce hh ⟨kq (f2 hh c11), rfl⟩
    rcases isb H1 with ⟨c20, H1⟩ | ⟨c20, H1⟩
    rotate_left
    ·skip
     repeat apply TW.seq
     refine dk 36 [2, 3, 4, 5, 6, 8, 9, 10, 20, 118] [.bool rGreatest, .bool rGreatest2, .bool rCheapest] [] [(.bool rCheapest2, stL [.cells true 3 [lNodes n.nodes, lLinks n.links, lEdges n.edges], .cells true 2 [ints f_.links, .int .i64 f_.node]])] (f3 hh (decide_eq_false c10) (f3 c11 c12 (f3 c15 c16 (f3 c19 c20 c7)))) ?_ ?_ ?_
     ·exact ⟨Pure.clr (sflow_Greatest_ok ax hx k n f_ from_ to_ x cut rGreatest e13 ) (by first | rfl | simp only [c7, c11, c12, c15, c16, c19, c20]), Pure.clr (sr22_Greatest_ok ax hx k n f_ from_ to_ x cut rGreatest2 e14 ) (by first | rfl | simp only [c7, c11, c12, c15, c16, c19, c20]), Pure.clr (sflow_Cheapest_ok ax hx k n f_ prices from_ to_ x pot rCheapest e17 ) (by first | rfl | simp only [c7, c11, c12, c15, c16, c19, c20]), trivial⟩
     ·exact ⟨Call0.call (Pure.clr (sr22_Cheapest_ok ax hx k n f_ prices from_ to_ x pot rCheapest2 e18 ) (by first | rfl | simp only [c7, c11, c12, c15, c16, c19, c20])), trivial⟩
     clear hh h
     intro h hh
     cases H1
     exact ce hh ⟨kq (f2 hh c11), rfl⟩
    repeat apply TW.seq
    refine dk 36 [2, 3, 4, 5, 6, 8, 9, 10, 20, 118] [.bool rGreatest, .bool rGreatest2, .bool rCheapest] [] [(.bool rCheapest2, stL [.cells true 3 [lNodes n.nodes, lLinks n.links, lEdges n.edges], .cells true 2 [ints f_.links, .int .i64 f_.node]])] (f3 hh (decide_eq_false c10) (f3 c11 c12 (f3 c15 c16 (f3 c19 c20 c7)))) ?_ ?_ ?_
    ·exact ⟨Pure.clr (sflow_Greatest_ok ax hx k n f_ from_ to_ x cut rGreatest e13 ) (by first | rfl | simp only [c7, c11, c12, c15, c16, c19, c20]), Pure.clr (sr22_Greatest_ok ax hx k n f_ from_ to_ x cut rGreatest2 e14 ) (by first | rfl | simp only [c7, c11, c12, c15, c16, c19, c20]), Pure.clr (sflow_Cheapest_ok ax hx k n f_ prices from_ to_ x pot rCheapest e17 ) (by first | rfl | simp only [c7, c11, c12, c15, c16, c19, c20]), trivial⟩
    ·exact ⟨Call0.call (Pure.clr (sr22_Cheapest_ok ax hx k n f_ prices from_ to_ x pot rCheapest2 e18 ) (by first | rfl | simp only [c7, c11, c12, c15, c16, c19, c20])), trivial⟩
    clear hh h
    intro h hh
    cases H1
    exact ce hh ⟨kq (f2 hh c11), rfl⟩
   repeat apply TW.seq
   refine dk 36 [2, 3, 4, 5, 6, 8, 9, 10, 20, 118] [] [] [] (f3 hh (decide_eq_true c10) c7) trivial trivial ?_
   clear hh h
   intro h hh
   cases H1
   exact ce hh ⟨kq hh, rfl⟩
  clear hh h
  rintro h bs ⟨hh, rfl⟩
  rcases isb H with ⟨c44, H⟩ | ⟨c44, H⟩
  rotate_left
  ·skip
   repeat apply TW.seq
   refine cf (f2 hh c44) ?_
   repeat apply TW.seq
   refine sk ?_
   obtain ⟨s_3, H1, H⟩ := bsome H
   repeat apply TW.seq
   refine cu [2, 3, 4, 6, 8, 9, 20, 132] 2 (fun h bs => (h 2 = .int .i64 from_ ∧ h 3 = .int .i64 to_ ∧ h 4 = ints x ∧ h 6 = ints prices ∧ h 8 = lStrands l ∧ h 9 = .ptr 0 0 3 ∧ h 20 = .bool s_2.1 ∧ h 132 = .bool s_3) ∧ bs = [.cells true 3 [lNodes n.nodes, lLinks n.links, lEdges n.edges], .cells true 2 [ints f_.links, .int .i64 f_.node]]) ?_ ?_
   ·skip
    obtain ⟨rIsCut, e45, H1⟩ := bsome H1
    rcases isb H1 with ⟨c46, H1⟩ | ⟨c46, H1⟩
    rotate_left
    ·skip
     repeat apply TW.seq
     refine dk 10 [2, 3, 4, 6, 8, 9, 20, 132] [.bool rIsCut] [] [] (f3 hh c46 (f2 c7 c44)) ?_ trivial ?_
     ·exact ⟨Pure.clr (sr22_IsCut_ok ax hx k n cut rIsCut e45 ) (by first | rfl | simp only [c7, c44, c46]), trivial⟩
     clear hh h
     intro h hh
     cases H1
     exact ce hh ⟨kq hh, rfl⟩
    obtain ⟨rCapacity, e47, H1⟩ := bsome H1
    obtain ⟨rCapacity2, e48, H1⟩ := bsome H1
    repeat apply TW.seq
    refine dk 10 [2, 3, 4, 6, 8, 9, 20, 132] [.bool rIsCut, .int .i64 rCapacity] [] [(.int .i64 rCapacity2, stL [.cells true 3 [lNodes n.nodes, lLinks n.links, lEdges n.edges], .cells true 2 [ints f_.links, .int .i64 f_.node]])] (f3 hh c46 (f2 c7 c44)) ?_ ?_ ?_
    ·exact ⟨Pure.clr (sr22_IsCut_ok ax hx k n cut rIsCut e45 ) (by first | rfl | simp only [c7, c44, c46]), Pure.clr (sflow_Capacity_ok ax hx k n f_ cut rCapacity e47 ) (by first | rfl | simp only [c7, c44, c46]), trivial⟩
    ·exact ⟨Call0.call (Pure.clr (sr22_Capacity_ok ax hx k n f_ cut rCapacity2 e48 ) (by first | rfl | simp only [c7, c44, c46])), trivial⟩
    clear hh h
    intro h hh
    cases H1
    exact ce hh ⟨kq hh, rfl⟩
   clear hh h
   rintro h bs ⟨hh, rfl⟩
   rcases isb H with ⟨c49, H⟩ | ⟨c49, H⟩
   rotate_left
   ·skip
    repeat apply TW.seq
    refine cf (f2 hh c49) ?_
    repeat apply TW.seq
    refine sk ?_
    repeat apply TW.seq
    refine rk [2, 3, 4, 6, 8, 9, 134] [] (f3 hh c7 (f2 c44 c49)) ?_
    clear hh h
    intro h hh
    rcases isb H with ⟨c50, H⟩ | ⟨c50, H⟩
    rotate_left
    ·skip
     repeat apply TW.seq
     refine ct (f2 hh c50) ?_
     repeat apply TW.seq
     refine rkc [18] [] [(.bool true, stL [.cells true 3 [lNodes n.nodes, lLinks n.links, lEdges n.edges], .cells true 2 [ints f_.links, .int .i64 f_.node]])] (f3 hh c7 (f3 c44 c49 c50)) ?_ ?_
     ·exact ⟨Call0.call (Pure.clr hx.san (by first | rfl | simp only [c7, c44, c49, c50])), trivial⟩
     clear hh h
     intro h hh
     cases H
     exact rt hh
    repeat apply TW.seq
    refine cf (f2 hh c50) ?_
    repeat apply TW.seq
    refine sk ?_
    obtain ⟨s_4, H1, H⟩ := bsome H
    repeat apply TW.seq
    refine cu [2, 3, 4, 8, 9, 147] 2 (fun h bs => (h 2 = .int .i64 from_ ∧ h 3 = .int .i64 to_ ∧ h 4 = ints x ∧ h 8 = lStrands l ∧ h 9 = .ptr 0 0 3 ∧ h 147 = .bool s_4) ∧ bs = [.cells true 3 [lNodes n.nodes, lLinks n.links, lEdges n.edges], .cells true 2 [ints f_.links, .int .i64 f_.node]]) ?_ ?_
    ·skip
     obtain ⟨rPrices, e51, H1⟩ := bsome H1
     rcases isb H1 with ⟨c52, H1⟩ | ⟨c52, H1⟩
     rotate_left
     ·skip
      repeat apply TW.seq
      refine rkc [2, 3, 4, 8, 9, 147] [] [(.bool rPrices, stL [.cells true 3 [lNodes n.nodes, lLinks n.links, lEdges n.edges], .cells true 2 [ints f_.links, .int .i64 f_.node]])] (f3 hh c52 (f3 c7 c44 (f2 c49 c50))) ?_ ?_
      ·exact ⟨Call0.call (Pure.clr (sr22_Prices_ok ax hx k n prices rPrices e51 ) (by first | rfl | simp only [c7, c44, c49, c50, c52])), trivial⟩
      clear hh h
      intro h hh
      cases H1
      exact ce hh ⟨kq hh, rfl⟩
     obtain ⟨rCost, e53, H1⟩ := bsome H1
     obtain ⟨rCost2, e54, H1⟩ := bsome H1
     repeat apply TW.seq
     refine rkc [2, 3, 4, 8, 9, 147] [] [(.bool rPrices, stL [.cells true 3 [lNodes n.nodes, lLinks n.links, lEdges n.edges], .cells true 2 [ints f_.links, .int .i64 f_.node]]), (.int .i64 rCost, stL [.cells true 3 [lNodes n.nodes, lLinks n.links, lEdges n.edges], .cells true 2 [ints f_.links, .int .i64 f_.node]]), (.int .i64 rCost2, stL [.cells true 3 [lNodes n.nodes, lLinks n.links, lEdges n.edges], .cells true 2 [ints f_.links, .int .i64 f_.node]])] (f3 hh c52 (f3 c7 c44 (f2 c49 c50))) ?_ ?_
     ·exact ⟨Call0.call (Pure.clr (sr22_Prices_ok ax hx k n prices rPrices e51 ) (by first | rfl | simp only [c7, c44, c49, c50, c52])), Call0.call (Pure.clr (sflow_Cost_ok ax hx k prices x rCost e53 ) (by first | rfl | simp only [c7, c44, c49, c50, c52])), Call0.call (Pure.clr (sr22_Cost_ok ax hx k prices x rCost2 e54 ) (by first | rfl | simp only [c7, c44, c49, c50, c52])), trivial⟩
     clear hh h
     intro h hh
     cases H1
     exact ce hh ⟨kq hh, rfl⟩
    clear hh h
    rintro h bs ⟨hh, rfl⟩
    rcases isb H with ⟨c55, H⟩ | ⟨c55, H⟩
    rotate_left
    ·skip
     repeat apply TW.seq
     refine cf (f2 hh c55) ?_
     repeat apply TW.seq
     refine sk ?_
     repeat apply TW.seq
     refine rk [2, 3, 4, 8, 9, 148, 149, 150] [] (f3 hh c7 (f3 c44 c49 (f2 c50 c55))) ?_
     clear hh h
     intro h hh
     obtain ⟨o, H1, H⟩ := bsome H
     repeat apply TW.seq
     refine cu [2, 3, 4, 8, 9] 2 (fun h bs => ∃ s_5 : Unit, o = .inr s_5 ∧ (h 2 = .int .i64 from_ ∧ h 3 = .int .i64 to_ ∧ h 4 = ints x ∧ h 8 = lStrands l ∧ h 9 = .ptr 0 0 3) ∧ bs = [.cells true 3 [lNodes n.nodes, lLinks n.links, lEdges n.edges], .cells true 2 [ints f_.links, .int .i64 f_.node]]) ?_ ?_
     ·skip
      repeat apply TW.seq
      apply TW.block
      repeat apply TW.seq
      refine TW.loopT [2, 3, 4, 8, 9, 148, 149, 150] (fun m h bs => ∃ (i : Int), sl_FlowChecksAsSpecified_L0 k l m i = some o ∧ (h 2 = .int .i64 from_ ∧ h 3 = .int .i64 to_ ∧ h 4 = ints x ∧ h 8 = lStrands l ∧ h 9 = .ptr 0 0 3 ∧ h 148 = lStrands l ∧ h 149 = .int .i64 (l.length : Int) ∧ h 150 = .int .i64 i) ∧ bs = [.cells true 3 [lNodes n.nodes, lLinks n.links, lEdges n.edges], .cells true 2 [ints f_.links, .int .i64 f_.node]]) ?_ k _ _ ?_
      rotate_left
      ·exact ⟨0, H1, kq hh, rfl⟩
      clear hh h H1
      rintro m h bs ⟨i, H1, hh, rfl⟩
      rcases m with _ | m
      ·rw [sl_FlowChecksAsSpecified_L0] at H1; cases H1
      rw [sl_FlowChecksAsSpecified_L0] at H1
      repeat apply TW.seq
      refine rk [2, 3, 4, 8, 9, 148, 149, 150, 151] [] (f3 hh c7 (f3 c44 c49 (f2 c50 c55))) ?_
      clear hh h
      intro h hh
      rcases isp H1 with ⟨c56, H1⟩ | ⟨c56, H1⟩
      rotate_left
      ·skip
       repeat apply TW.seq
       refine cf (f2 hh (decide_eq_false c56)) ?_
       refine xk ?_
       cases H1
       exact ce hh ⟨_, rfl, kq hh, rfl⟩
      repeat apply TW.seq
      refine ct (f2 hh (decide_eq_true c56)) ?_
      repeat apply TW.seq
      refine sk ?_
      repeat apply TW.seq
      apply TW.block
      obtain ⟨g57, H1⟩ := isg H1
      repeat apply TW.seq
      refine rk [2, 3, 4, 8, 9, 24, 148, 149, 150] [] (f3 hh c7 (f3 c44 c49 (f3 c50 c55 (gx_some g57)))) ?_
      clear hh h
      intro h hh
      repeat apply TW.seq
      refine rk [2, 3, 4, 8, 9, 148, 149, 150, 157] [] (f3 hh c7 (f3 c44 c49 (f2 c50 c55))) ?_
      clear hh h
      intro h hh
      rcases isp H1 with ⟨c58, H1⟩ | ⟨c58, H1⟩
      rotate_left
      ·skip
       repeat apply TW.seq
       refine cf (f2 hh (decide_eq_false c58)) ?_
       repeat apply TW.seq
       refine sk ?_
       repeat apply TW.seq
       refine rk [2, 3, 4, 8, 9, 148, 149, 150] [] (f3 hh c7 (f3 c44 c49 (f2 c50 c55))) ?_
       clear hh h
       intro h hh
       exact rd m hh ⟨(IntKind.i64.wrap (i + 1)), H1, kq hh, rfl⟩
      repeat apply TW.seq
      refine ct (f2 hh (decide_eq_true c58)) ?_
      repeat apply TW.seq
      refine rkc [18] [] [(.bool true, stL [.cells true 3 [lNodes n.nodes, lLinks n.links, lEdges n.edges], .cells true 2 [ints f_.links, .int .i64 f_.node], .cells true 2 [ints ((gx l i).links), .int .i64 ((gx l i).amount)]])] (f3 hh c7 (f3 c44 c49 (f2 c50 c55))) ?_ ?_
      ·exact ⟨Call0.call (Pure.clr hx.san (by first | rfl | simp only [c7, c44, c49, c50, c55])), trivial⟩
      clear hh h
      intro h hh
      cases H1
      obtain rfl := sinl H
      exact rt hh
     clear hh h
     rintro h bs ⟨s_5, rfl, hh, rfl⟩
     replace H := sinr H
     obtain ⟨rStrands, e59, H⟩ := bsome H
     obtain ⟨rStrands2, e60, H⟩ := bsome H
     rcases isb H with ⟨c61, H⟩ | ⟨c61, H⟩
     rotate_left
     ·skip
      rcases isb H with ⟨c63, H⟩ | ⟨c63, H⟩
      rotate_left
      ·skip
       repeat apply TW.seq
       refine dk 9 [18] [.bool true, .bool rStrands] [] [(.bool rStrands2, stL [.cells true 3 [lNodes n.nodes, lLinks n.links, lEdges n.edges], .cells true 2 [ints f_.links, .int .i64 f_.node]])] (f3 hh c61 (f3 c63 c7 (f3 c44 c49 (f2 c50 c55)))) ?_ ?_ ?_
       ·exact ⟨Pure.clr hx.san (by first | rfl | simp only [c7, c44, c49, c50, c55, c61, c63]), Pure.clr (sflow_Strands_ok ax hx k n from_ to_ x l rStrands e59 ) (by first | rfl | simp only [c7, c44, c49, c50, c55, c61, c63]), trivial⟩
       ·exact ⟨Call0.call (Pure.clr (sr22_Strands_ok ax hx k n from_ to_ x l rStrands2 e60 ) (by first | rfl | simp only [c7, c44, c49, c50, c55, c61, c63])), trivial⟩
       clear hh h
       intro h hh
       cases H
       exact rt hh
      repeat apply TW.seq
      refine dk 9 [18] [.bool true, .bool rStrands] [] [(.bool rStrands2, stL [.cells true 3 [lNodes n.nodes, lLinks n.links, lEdges n.edges], .cells true 2 [ints f_.links, .int .i64 f_.node]])] (f3 hh c61 (f3 c63 c7 (f3 c44 c49 (f2 c50 c55)))) ?_ ?_ ?_
      ·exact ⟨Pure.clr hx.san (by first | rfl | simp only [c7, c44, c49, c50, c55, c61, c63]), Pure.clr (sflow_Strands_ok ax hx k n from_ to_ x l rStrands e59 ) (by first | rfl | simp only [c7, c44, c49, c50, c55, c61, c63]), trivial⟩
      ·exact ⟨Call0.call (Pure.clr (sr22_Strands_ok ax hx k n from_ to_ x l rStrands2 e60 ) (by first | rfl | simp only [c7, c44, c49, c50, c55, c61, c63])), trivial⟩
      clear hh h
      intro h hh
      cases H
      exact rt hh
     rcases isb H with ⟨c62, H⟩ | ⟨c62, H⟩
     rotate_left
     ·skip
      repeat apply TW.seq
      refine dk 9 [18] [.bool true, .bool rStrands] [] [(.bool rStrands2, stL [.cells true 3 [lNodes n.nodes, lLinks n.links, lEdges n.edges], .cells true 2 [ints f_.links, .int .i64 f_.node]])] (f3 hh c61 (f3 c62 c7 (f3 c44 c49 (f2 c50 c55)))) ?_ ?_ ?_
      ·exact ⟨Pure.clr hx.san (by first | rfl | simp only [c7, c44, c49, c50, c55, c61, c62]), Pure.clr (sflow_Strands_ok ax hx k n from_ to_ x l rStrands e59 ) (by first | rfl | simp only [c7, c44, c49, c50, c55, c61, c62]), trivial⟩
      ·exact ⟨Call0.call (Pure.clr (sr22_Strands_ok ax hx k n from_ to_ x l rStrands2 e60 ) (by first | rfl | simp only [c7, c44, c49, c50, c55, c61, c62])), trivial⟩
      clear hh h
      intro h hh
      cases H
      exact rt hh
     repeat apply TW.seq
     refine dk 9 [18] [.bool true, .bool rStrands] [] [(.bool rStrands2, stL [.cells true 3 [lNodes n.nodes, lLinks n.links, lEdges n.edges], .cells true 2 [ints f_.links, .int .i64 f_.node]])] (f3 hh c61 (f3 c62 c7 (f3 c44 c49 (f2 c50 c55)))) ?_ ?_ ?_
     ·exact ⟨Pure.clr hx.san (by first | rfl | simp only [c7, c44, c49, c50, c55, c61, c62]), Pure.clr (sflow_Strands_ok ax hx k n from_ to_ x l rStrands e59 ) (by first | rfl | simp only [c7, c44, c49, c50, c55, c61, c62]), trivial⟩
     ·exact ⟨Call0.call (Pure.clr (sr22_Strands_ok ax hx k n from_ to_ x l rStrands2 e60 ) (by first | rfl | simp only [c7, c44, c49, c50, c55, c61, c62])), trivial⟩
     clear hh h
     intro h hh
     cases H
     exact rt hh
    repeat apply TW.seq
    refine ct (f2 hh c55) ?_
    repeat apply TW.seq
    refine rk [18] [] (f3 hh c7 (f3 c44 c49 (f2 c50 c55))) ?_
    clear hh h
    intro h hh
    cases H
    exact rt hh
   repeat apply TW.seq
   refine ct (f2 hh c49) ?_
   repeat apply TW.seq
   refine rk [18] [] (f3 hh c7 (f2 c44 c49)) ?_
   clear hh h
   intro h hh
   cases H
   exact rt hh
  repeat apply TW.seq
  refine ct (f2 hh c44) ?_
  repeat apply TW.seq
  refine rk [18] [] (f3 hh c7 c44) ?_
  clear hh h
  intro h hh
  cases H
  exact rt hh
 repeat apply TW.seq
 refine ct (f2 hh c7) ?_
 repeat apply TW.seq
 refine rkc [18] [] [(.bool true, stL [.cells true 3 [lNodes n.nodes, lLinks n.links, lEdges n.edges], .cells true 2 [ints f_.links, .int .i64 f_.node]])] (f2 hh c7) ?_ ?_
 ·exact ⟨Call0.call (Pure.clr hx.san (by first | rfl | simp only [c7])), trivial⟩
 clear hh h
 intro h hh
 cases H
 exact rt hh
end Go.Proofs.Ytfalnphlgfoflaa