/- Functions as plain functions, and that the code computes them. -/
import Derived.Test.YtfalnphlgfoflaaSF
import Derived.Test.YtfalnphlgfoflaaSH
namespace Go.Proofs.Ytfalnphlgfoflaa
open Go Go.RowKit
set_option linter.unusedSimpArgs false
set_option linter.unusedVariables false
set_option linter.unusedSectionVars false
set_option maxRecDepth 100000
def sl_FlowIsCheap_L0 (k : Nat) (n : Net) : Nat → Int → Option (Bool ⊕ Unit)
 | 0, _ => none
 | m + 1, i => (if i < (n.links.length : Int) then (if (0 : Int) ≤ i ∧ i < (n.links.length : Int) then (if 1000 < ((gx n.links i).cap) then some (.inl true) else sl_FlowIsCheap_L0 k n m (IntKind.i64.wrap (i + 1))) else none) else some (.inr ()))
def sl_FlowIsCheap (k : Nat) (n : Net) (f_ : Failure) (prices : List Int) (from_ : Int) (to_ : Int) (amount : Int) (x : List Int) : Option Bool := ((((sl_right k n f_ 0 0).bind fun rright => (if rright = true then (if 40 < (prices.length : Int) then some true else some (decide (40 < (x.length : Int)))) else some true)) : Option Bool).bind fun s_ => (if s_ = true then some true else ((sl_FlowIsCheap_L0 k n k 0 : Option (Bool ⊕ Unit)).bind fun o => Sum.elim (fun r => some r) (fun s_2 => ((sflow_Cheap k n f_ prices from_ to_ amount).bind fun rCheap => (((if from_ < 0 then some true else (if (n.nodes.length : Int) ≤ from_ then some true else (if to_ < 0 then some true else (if (n.nodes.length : Int) ≤ to_ then some true else (if from_ = to_ then some true else ((sr22_Prices k n prices).bind fun rPrices => (if rPrices = true then (if amount < 0 then some true else some (decide (4294967296 < amount))) else some true))))))) : Option Bool).bind fun s_3 => (if s_3 = true then (((if rCheap.2.2 = 1 then some (decide ((IntKind.i64.wrap ((rCheap.1.length : Int) + (rCheap.2.1.length : Int))) = 0)) else some false) : Option Bool).bind fun s_4 => some s_4) else ((sr22_Value k n f_ from_ to_).bind fun rValue => (if rValue < amount then (((if rCheap.2.2 = 19 then some (decide ((IntKind.i64.wrap ((rCheap.1.length : Int) + (rCheap.2.1.length : Int))) = 0)) else some false) : Option Bool).bind fun s_5 => some s_5) else ((sr22_Check k n f_ from_ to_ rCheap.1).bind fun rCheck => (((if rCheap.2.2 ≠ 0 then some true else (if rCheck.2 = true then (if rCheck.1 ≠ amount then some true else ((sflow_Cheapest k n f_ prices from_ to_ rCheap.1 rCheap.2.1).bind fun rCheapest => some (!rCheapest))) else some true)) : Option Bool).bind fun s_6 => (if s_6 = true then some false else ((sr22_Check k n f_ from_ to_ x).bind fun rCheck2 => (if rCheck2.2 = true then (if rCheck2.1 ≠ amount then some true else ((sflow_Cost k prices rCheap.1).bind fun rCost => ((sflow_Cost k prices x).bind fun rCost2 => some (decide (rCost ≤ rCost2))))) else some true))))))))))) o)))
set_option maxHeartbeats 8000000 in
theorem sl_FlowIsCheap_ok (ax : Axs) (hx : Plain ax) (k : Nat) (n : Net) (f_ : Failure) (prices : List Int) (from_ : Int) (to_ : Int) (amount : Int) (x : List Int) (v : Bool) (H : sl_FlowIsCheap k n f_ prices from_ to_ amount x = some v) : Pure Try.prog (EE ax) [] 6 [eNet n, eFail f_, ints prices, .int .i64 from_, .int .i64 to_, .int .i64 amount, ints x] (.bool v) := by
 rw [sl_FlowIsCheap] at H
 refine en [.tmp 14] 193 [0, 1, 2, 3, 4, 5, 6] (hx.no _ (by decide)) (fn6 ax) ?_
 intro h hh
 repeat apply TW.seq
 refine rk [2, 3, 4, 5, 6, 7, 8] [] hh ?_
 clear hh h
 intro h hh
 obtain ⟨s_, H1, H⟩ := bsome H
 repeat apply TW.seq
 refine cu [2, 3, 4, 5, 6, 7, 8, 37] 2 (fun h bs => (h 2 = ints prices ∧ h 3 = .int .i64 from_ ∧ h 4 = .int .i64 to_ ∧ h 5 = .int .i64 amount ∧ h 6 = ints x ∧ h 7 = .ptr 0 0 3 ∧ h 8 = .ptr 1 0 2 ∧ h 37 = .bool s_) ∧ bs = [.cells true 3 [lNodes n.nodes, lLinks n.links, lEdges n.edges], .cells true 2 [ints f_.links, .int .i64 f_.node]]) ?_ ?_
 ·skip
  obtain ⟨rright, e1, H1⟩ := bsome H1
  rcases isb H1 with ⟨c2, H1⟩ | ⟨c2, H1⟩
  rotate_left
  ·skip
   repeat apply TW.seq
   refine rkc [2, 3, 4, 5, 6, 7, 8, 37] [] [(.bool rright, stL [.cells true 3 [lNodes n.nodes, lLinks n.links, lEdges n.edges], .cells true 2 [ints f_.links, .int .i64 f_.node]])] (f2 hh c2) ?_ ?_
   ·exact ⟨Call0.call (Pure.clr (sl_right_ok ax hx k n f_ 0 0 rright e1 ) (by first | rfl | simp only [c2])), trivial⟩
   clear hh h
   intro h hh
   cases H1
   exact ce hh ⟨kq hh, rfl⟩
  rcases isp H1 with ⟨c3, H1⟩ | ⟨c3, H1⟩
  rotate_left
  ·skip
   repeat apply TW.seq
   refine rkc [2, 3, 4, 5, 6, 7, 8, 37] [] [(.bool rright, stL [.cells true 3 [lNodes n.nodes, lLinks n.links, lEdges n.edges], .cells true 2 [ints f_.links, .int .i64 f_.node]])] (f3 hh c2 (decide_eq_false c3)) ?_ ?_
   ·exact ⟨Call0.call (Pure.clr (sl_right_ok ax hx k n f_ 0 0 rright e1 ) (by first | rfl | simp only [c2])), trivial⟩
   clear hh h
   intro h hh
   cases H1
   exact ce hh ⟨kq hh, rfl⟩
  repeat apply TW.seq
  refine rkc [2, 3, 4, 5, 6, 7, 8, 37] [] [(.bool rright, stL [.cells true 3 [lNodes n.nodes, lLinks n.links, lEdges n.edges], .cells true 2 [ints f_.links, .int .i64 f_.node]])] (f3 hh c2 (decide_eq_true c3)) ?_ ?_
  ·exact ⟨Call0.call (Pure.clr (sl_right_ok ax hx k n f_ 0 0 rright e1 ) (by first | rfl | simp only [c2])), trivial⟩
  clear hh h
  intro h hh
  cases H1
  exact ce hh ⟨kq hh, rfl⟩
 clear hh h
 rintro h bs ⟨hh, rfl⟩
 rcases isb H with ⟨c4, H⟩ | ⟨c4, H⟩
 rotate_left
 ·skip
  repeat apply TW.seq
  refine cf (f2 hh c4) ?_
  repeat apply TW.seq
  refine sk ?_
  repeat apply TW.seq
  refine rk [2, 3, 4, 5, 6, 7, 8, 40, 41, 42] [] (f2 hh c4) ?_
  clear hh h
  intro h hh
  obtain ⟨o, H1, H⟩ := bsome H
  repeat apply TW.seq
  refine cu [2, 3, 4, 5, 6, 7, 8] 2 (fun h bs => ∃ s_2 : Unit, o = .inr s_2 ∧ (h 2 = ints prices ∧ h 3 = .int .i64 from_ ∧ h 4 = .int .i64 to_ ∧ h 5 = .int .i64 amount ∧ h 6 = ints x ∧ h 7 = .ptr 0 0 3 ∧ h 8 = .ptr 1 0 2) ∧ bs = [.cells true 3 [lNodes n.nodes, lLinks n.links, lEdges n.edges], .cells true 2 [ints f_.links, .int .i64 f_.node]]) ?_ ?_
  ·skip
   repeat apply TW.seq
   apply TW.block
   repeat apply TW.seq
   refine TW.loopT [2, 3, 4, 5, 6, 7, 8, 40, 41, 42] (fun m h bs => ∃ (i : Int), sl_FlowIsCheap_L0 k n m i = some o ∧ (h 2 = ints prices ∧ h 3 = .int .i64 from_ ∧ h 4 = .int .i64 to_ ∧ h 5 = .int .i64 amount ∧ h 6 = ints x ∧ h 7 = .ptr 0 0 3 ∧ h 8 = .ptr 1 0 2 ∧ h 40 = lLinks n.links ∧ h 41 = .int .i64 (n.links.length : Int) ∧ h 42 = .int .i64 i) ∧ bs = [.cells true 3 [lNodes n.nodes, lLinks n.links, lEdges n.edges], .cells true 2 [ints f_.links, .int .i64 f_.node]]) ?_ k _ _ ?_
   rotate_left
   ·exact ⟨0, H1, kq hh, rfl⟩
   clear hh h H1
   rintro m h bs ⟨i, H1, hh, rfl⟩
   rcases m with _ | m
   ·rw [sl_FlowIsCheap_L0] at H1; cases H1
   rw [sl_FlowIsCheap_L0] at H1
   repeat apply TW.seq
   refine rk [2, 3, 4, 5, 6, 7, 8, 40, 41, 42, 43] [] (f2 hh c4) ?_
   clear hh h
   intro h hh
   rcases isp H1 with ⟨c5, H1⟩ | ⟨c5, H1⟩
   rotate_left
   ·skip
    repeat apply TW.seq
    refine cf (f2 hh (decide_eq_false c5)) ?_
    refine xk ?_
    cases H1
    exact ce hh ⟨_, rfl, kq hh, rfl⟩
   repeat apply TW.seq
   refine ct (f2 hh (decide_eq_true c5)) ?_
   repeat apply TW.seq
   refine sk ?_
   repeat apply TW.seq
   apply TW.block
   obtain ⟨g6, H1⟩ := isg H1
   repeat apply TW.seq
   refine rk [2, 3, 4, 5, 6, 7, 8, 16, 40, 41, 42] [] (f3 hh c4 (gx_some g6)) ?_
   clear hh h
   intro h hh
   repeat apply TW.seq
   refine rk [2, 3, 4, 5, 6, 7, 8, 40, 41, 42, 48] [] (f2 hh c4) ?_
   clear hh h
   intro h hh
   rcases isp H1 with ⟨c7, H1⟩ | ⟨c7, H1⟩
   rotate_left
   ·skip
    repeat apply TW.seq
    refine cf (f2 hh (decide_eq_false c7)) ?_
    repeat apply TW.seq
    refine sk ?_
    repeat apply TW.seq
    refine rk [2, 3, 4, 5, 6, 7, 8, 40, 41, 42] [] (f2 hh c4) ?_
    clear hh h
    intro h hh
    exact rd m hh ⟨(IntKind.i64.wrap (i + 1)), H1, kq hh, rfl⟩
   repeat apply TW.seq
   refine ct (f2 hh (decide_eq_true c7)) ?_
   repeat apply TW.seq
   refine rkc [14] [] [(.bool true, stL [.cells true 3 [lNodes n.nodes, lLinks n.links, lEdges n.edges], .cells true 2 [ints f_.links, .int .i64 f_.node], .cells true 3 [.int .i64 ((gx n.links i).frm), .int .i64 ((gx n.links i).to), .int .i64 ((gx n.links i).cap)]])] (f2 hh c4) ?_ ?_
   ·exact ⟨Call0.call (Pure.clr hx.san (by first | rfl | simp only [c4])), trivial⟩
   clear hh h
   intro h hh
   cases H1
   obtain rfl := sinl H
   exact rt hh
  clear hh h
  rintro h bs ⟨s_2, rfl, hh, rfl⟩
  replace H := sinr H
  obtain ⟨rCheap, e8, H⟩ := bsome H
  repeat apply TW.seq
  refine rkc [2, 3, 4, 5, 6, 7, 8, 17, 18, 19] [] [(.tup [ints rCheap.1, ints rCheap.2.1, .int .i64 rCheap.2.2], stL [.cells true 3 [lNodes n.nodes, lLinks n.links, lEdges n.edges], .cells true 2 [ints f_.links, .int .i64 f_.node]])] (f2 hh c4) ?_ ?_
  ·exact ⟨Call0.call (Pure.clr (sflow_Cheap_ok ax hx k n f_ prices from_ to_ amount rCheap e8 ) (by first | rfl | simp only [c4])), trivial⟩
  clear hh h
  intro h hh
  obtain ⟨s_3, H1, H⟩ := bsome H
  repeat apply TW.seq
  refine cu [2, 3, 4, 5, 6, 7, 8, 17, 18, 19, 100] 2 (fun h bs => (h 2 = ints prices ∧ h 3 = .int .i64 from_ ∧ h 4 = .int .i64 to_ ∧ h 5 = .int .i64 amount ∧ h 6 = ints x ∧ h 7 = .ptr 0 0 3 ∧ h 8 = .ptr 1 0 2 ∧ h 17 = ints rCheap.1 ∧ h 18 = ints rCheap.2.1 ∧ h 19 = .int .i64 rCheap.2.2 ∧ h 100 = .bool s_3) ∧ bs = [.cells true 3 [lNodes n.nodes, lLinks n.links, lEdges n.edges], .cells true 2 [ints f_.links, .int .i64 f_.node]]) ?_ ?_
  ·skip
   rcases isp H1 with ⟨c9, H1⟩ | ⟨c9, H1⟩
   rotate_left
   ·skip
    rcases isp H1 with ⟨c10, H1⟩ | ⟨c10, H1⟩
    rotate_left
    ·skip
     rcases isp H1 with ⟨c11, H1⟩ | ⟨c11, H1⟩
     rotate_left
     ·skip
      rcases isp H1 with ⟨c12, H1⟩ | ⟨c12, H1⟩
      rotate_left
      ·skip
       rcases isp H1 with ⟨c13, H1⟩ | ⟨c13, H1⟩
       rotate_left
       ·skip
        obtain ⟨rPrices, e14, H1⟩ := bsome H1
        rcases isb H1 with ⟨c15, H1⟩ | ⟨c15, H1⟩
        rotate_left
        ·skip
         repeat apply TW.seq
         refine rkc [2, 3, 4, 5, 6, 7, 8, 17, 18, 19, 100] [] [(.bool rPrices, stL [.cells true 3 [lNodes n.nodes, lLinks n.links, lEdges n.edges], .cells true 2 [ints f_.links, .int .i64 f_.node]])] (f3 hh (decide_eq_false c9) (f3 (decide_eq_false c10) (decide_eq_false c11) (f3 (decide_eq_false c12) (decide_eq_false c13) (f2 c15 c4)))) ?_ ?_
         ·exact ⟨Call0.call (Pure.clr (sr22_Prices_ok ax hx k n prices rPrices e14 ) (by first | rfl | simp only [c4, c15])), trivial⟩
         clear hh h
         intro h hh
         cases H1
         exact ce hh ⟨kq hh, rfl⟩
        rcases isp H1 with ⟨c16, H1⟩ | ⟨c16, H1⟩
        rotate_left
        ·skip
         repeat apply TW.seq
         refine rkc [2, 3, 4, 5, 6, 7, 8, 17, 18, 19, 100] [] [(.bool rPrices, stL [.cells true 3 [lNodes n.nodes, lLinks n.links, lEdges n.edges], .cells true 2 [ints f_.links, .int .i64 f_.node]])] (f3 hh (decide_eq_false c9) (f3 (decide_eq_false c10) (decide_eq_false c11) (f3 (decide_eq_false c12) (decide_eq_false c13) (f3 c15 (decide_eq_false c16) c4)))) ?_ ?_
         ·exact ⟨Call0.call (Pure.clr (sr22_Prices_ok ax hx k n prices rPrices e14 ) (by first | rfl | simp only [c4, c15])), trivial⟩
         clear hh h
         intro h hh
         cases H1
         exact ce hh ⟨kq hh, rfl⟩
        repeat apply TW.seq
        refine rkc [2, 3, 4, 5, 6, 7, 8, 17, 18, 19, 100] [] [(.bool rPrices, stL [.cells true 3 [lNodes n.nodes, lLinks n.links, lEdges n.edges], .cells true 2 [ints f_.links, .int .i64 f_.node]])] (f3 hh (decide_eq_false c9) (f3 (decide_eq_false c10) (decide_eq_false c11) (f3 (decide_eq_false c12) (decide_eq_false c13) (f3 c15 (decide_eq_true c16) c4)))) ?_ ?_
        ·exact ⟨Call0.call (Pure.clr (sr22_Prices_ok ax hx k n prices rPrices e14 ) (by first | rfl | simp only [c4, c15])), trivial⟩
        clear hh h
        intro h hh
        cases H1
        exact ce hh ⟨kq hh, rfl⟩
       repeat apply TW.seq
       refine rk [2, 3, 4, 5, 6, 7, 8, 17, 18, 19, 100] [] (f3 hh (decide_eq_false c9) (f3 (decide_eq_false c10) (decide_eq_false c11) (f3 (decide_eq_false c12) (decide_eq_true c13) c4))) ?_
       clear hh h
       intro h hh
       cases H1
       exact ce hh ⟨kq hh, rfl⟩
      repeat apply TW.seq
      refine rk [2, 3, 4, 5, 6, 7, 8, 17, 18, 19, 100] [] (f3 hh (decide_eq_false c9) (f3 (decide_eq_false c10) (decide_eq_false c11) (f2 (decide_eq_true c12) c4))) ?_
      clear hh h
      intro h hh
      cases H1
      exact ce hh ⟨kq hh, rfl⟩
     repeat apply TW.seq
     refine rk [2, 3, 4, 5, 6, 7, 8, 17, 18, 19, 100] [] (f3 hh (decide_eq_false c9) (f3 (decide_eq_false c10) (decide_eq_true c11) c4)) ?_
     clear hh h
     intro h hh
     cases H1
     exact ce hh ⟨kq hh, rfl⟩
    repeat apply TW.seq
    refine rk [2, 3, 4, 5, 6, 7, 8, 17, 18, 19, 100] [] (f3 hh (decide_eq_false c9) (f2 (decide_eq_true c10) c4)) ?_
    clear hh h
    intro h hh
    cases H1
    exact ce hh ⟨kq hh, rfl⟩
   repeat apply TW.seq
   refine rk [2, 3, 4, 5, 6, 7, 8, 17, 18, 19, 100] [] (f3 hh (decide_eq_true c9) c4) ?_
   clear hh h
   intro h hh
   cases H1
   exact ce hh ⟨kq hh, rfl⟩
  clear hh h
  rintro h bs ⟨hh, rfl⟩
  rcases isb H with ⟨c17, H⟩ | ⟨c17, H⟩
  rotate_left
  ·skip
   repeat apply TW.seq
   refine cf (f2 hh c17) ?_
   repeat apply TW.seq
   refine sk ?_
   obtain ⟨rValue, e19, H⟩ := bsome H
   repeat apply TW.seq
   refine rkc [2, 3, 4, 5, 6, 7, 8, 17, 18, 19, 120] [] [(.int .i64 rValue, stL [.cells true 3 [lNodes n.nodes, lLinks n.links, lEdges n.edges], .cells true 2 [ints f_.links, .int .i64 f_.node]])] (f3 hh c4 c17) ?_ ?_
   ·exact ⟨Call0.call (Pure.clr (sr22_Value_ok ax hx k n f_ from_ to_ rValue e19 ) (by first | rfl | simp only [c4, c17])), trivial⟩
   clear hh h
   intro h hh
   rcases isp H with ⟨c20, H⟩ | ⟨c20, H⟩
   rotate_left
   ·skip
    repeat apply TW.seq
    refine cf (f2 hh (decide_eq_false c20)) ?_
    repeat apply TW.seq
    refine sk ?_
    obtain ⟨rCheck, e22, H⟩ := bsome H
    repeat apply TW.seq
    refine rkc [2, 3, 4, 5, 6, 7, 8, 17, 18, 19, 20, 21] [] [(.tup [.int .i64 rCheck.1, .bool rCheck.2], stL [.cells true 3 [lNodes n.nodes, lLinks n.links, lEdges n.edges], .cells true 2 [ints f_.links, .int .i64 f_.node]])] (f3 hh c4 c17) ?_ ?_
    ·exact ⟨Call0.call (Pure.clr (sr22_Check_ok ax hx k n f_ from_ to_ rCheap.1 rCheck e22 ) (by first | rfl | simp only [c4, c17])), trivial⟩
    clear hh h
    intro h hh
    obtain ⟨s_6, H1, H⟩ := bsome H
    repeat apply TW.seq
    refine cu [2, 3, 4, 5, 6, 7, 8, 17, 164] 2 (fun h bs => (h 2 = ints prices ∧ h 3 = .int .i64 from_ ∧ h 4 = .int .i64 to_ ∧ h 5 = .int .i64 amount ∧ h 6 = ints x ∧ h 7 = .ptr 0 0 3 ∧ h 8 = .ptr 1 0 2 ∧ h 17 = ints rCheap.1 ∧ h 164 = .bool s_6) ∧ bs = [.cells true 3 [lNodes n.nodes, lLinks n.links, lEdges n.edges], .cells true 2 [ints f_.links, .int .i64 f_.node]]) ?_ ?_
    ·skip
     rcases isp H1 with ⟨c23, H1⟩ | ⟨c23, H1⟩
     rotate_left
     ·skip
      rcases isb H1 with ⟨c24, H1⟩ | ⟨c24, H1⟩
      rotate_left
      ·skip
       repeat apply TW.seq
       refine rk [2, 3, 4, 5, 6, 7, 8, 17, 164] [] (f3 hh (decide_eq_false c23) (f3 c24 c4 c17)) ?_
       clear hh h
       intro h hh
       cases H1
       exact ce hh ⟨kq hh, rfl⟩
      rcases isp H1 with ⟨c25, H1⟩ | ⟨c25, H1⟩
      rotate_left
      ·skip
       obtain ⟨rCheapest, e26, H1⟩ := bsome H1
       repeat apply TW.seq
       refine rkc [2, 3, 4, 5, 6, 7, 8, 17, 164] [] [(.bool rCheapest, stL [.cells true 3 [lNodes n.nodes, lLinks n.links, lEdges n.edges], .cells true 2 [ints f_.links, .int .i64 f_.node]])] (f3 hh (decide_eq_false c23) (f3 c24 (decide_eq_false c25) (f2 c4 c17))) ?_ ?_
       ·exact ⟨Call0.call (Pure.clr (sflow_Cheapest_ok ax hx k n f_ prices from_ to_ rCheap.1 rCheap.2.1 rCheapest e26 ) (by first | rfl | simp only [c4, c17, c24])), trivial⟩
       clear hh h
       intro h hh
       cases H1
       exact ce hh ⟨kq hh, rfl⟩
      repeat apply TW.seq
      refine rk [2, 3, 4, 5, 6, 7, 8, 17, 164] [] (f3 hh (decide_eq_false c23) (f3 c24 (decide_eq_true c25) (f2 c4 c17))) ?_
      clear hh h
      intro h hh
      cases H1
      exact ce hh ⟨kq hh, rfl⟩
     repeat apply TW.seq
     refine rk [2, 3, 4, 5, 6, 7, 8, 17, 164] [] (f3 hh (decide_eq_true c23) (f2 c4 c17)) ?_
     clear hh h
     intro h hh
     cases H1
     exact ce hh ⟨kq hh, rfl⟩
    clear hh h
    rintro h bs ⟨hh, rfl⟩
    rcases isb H with ⟨c27, H⟩ | ⟨c27, H⟩
    rotate_left
    ·skip
     repeat apply TW.seq
     refine cf (f2 hh c27) ?_
     repeat apply TW.seq
     refine sk ?_
     obtain ⟨rCheck2, e28, H⟩ := bsome H
     repeat apply TW.seq
     refine rkc [2, 5, 6, 17, 22, 23] [] [(.tup [.int .i64 rCheck2.1, .bool rCheck2.2], stL [.cells true 3 [lNodes n.nodes, lLinks n.links, lEdges n.edges], .cells true 2 [ints f_.links, .int .i64 f_.node]])] (f3 hh c4 (f2 c17 c27)) ?_ ?_
     ·exact ⟨Call0.call (Pure.clr (sr22_Check_ok ax hx k n f_ from_ to_ x rCheck2 e28 ) (by first | rfl | simp only [c4, c17, c27])), trivial⟩
     clear hh h
     intro h hh
     rcases isb H with ⟨c29, H⟩ | ⟨c29, H⟩
     rotate_left
     ·skip
      repeat apply TW.seq
      refine rkc [14] [] [(.bool true, stL [.cells true 3 [lNodes n.nodes, lLinks n.links, lEdges n.edges], .cells true 2 [ints f_.links, .int .i64 f_.node]])] (f3 hh c29 (f3 c4 c17 c27)) ?_ ?_
      ·exact ⟨Call0.call (Pure.clr hx.san (by first | rfl | simp only [c4, c17, c27, c29])), trivial⟩
      clear hh h
      intro h hh
      cases H
      exact rt hh
     rcases isp H with ⟨c30, H⟩ | ⟨c30, H⟩
     rotate_left
     ·skip
      obtain ⟨rCost, e31, H⟩ := bsome H
      obtain ⟨rCost2, e32, H⟩ := bsome H
      repeat apply TW.seq
      refine rkc [14] [] [(.bool true, stL [.cells true 3 [lNodes n.nodes, lLinks n.links, lEdges n.edges], .cells true 2 [ints f_.links, .int .i64 f_.node]]), (.int .i64 rCost, stL [.cells true 3 [lNodes n.nodes, lLinks n.links, lEdges n.edges], .cells true 2 [ints f_.links, .int .i64 f_.node]]), (.int .i64 rCost2, stL [.cells true 3 [lNodes n.nodes, lLinks n.links, lEdges n.edges], .cells true 2 [ints f_.links, .int .i64 f_.node]])] (f3 hh c29 (f3 (decide_eq_false c30) c4 (f2 c17 c27))) ?_ ?_
      ·exact ⟨Call0.call (Pure.clr hx.san (by first | rfl | simp only [c4, c17, c27, c29])), Call0.call (Pure.clr (sflow_Cost_ok ax hx k prices rCheap.1 rCost e31 ) (by first | rfl | simp only [c4, c17, c27, c29])), Call0.call (Pure.clr (sflow_Cost_ok ax hx k prices x rCost2 e32 ) (by first | rfl | simp only [c4, c17, c27, c29])), trivial⟩
      clear hh h
      intro h hh
      cases H
      exact rt hh
     repeat apply TW.seq
     refine rkc [14] [] [(.bool true, stL [.cells true 3 [lNodes n.nodes, lLinks n.links, lEdges n.edges], .cells true 2 [ints f_.links, .int .i64 f_.node]])] (f3 hh c29 (f3 (decide_eq_true c30) c4 (f2 c17 c27))) ?_ ?_
     ·exact ⟨Call0.call (Pure.clr hx.san (by first | rfl | simp only [c4, c17, c27, c29])), trivial⟩
     clear hh h
     intro h hh
     cases H
     exact rt hh
    repeat apply TW.seq
    refine ct (f2 hh c27) ?_
    repeat apply TW.seq
    refine rk [14] [] (f3 hh c4 (f2 c17 c27)) ?_
    clear hh h
    intro h hh
    cases H
    exact rt hh
   repeat apply TW.seq
   refine ct (f2 hh (decide_eq_true c20)) ?_
   obtain ⟨s_5, H1, H⟩ := bsome H
   repeat apply TW.seq
   refine cu [14] 2 (fun h bs => (h 14 = .bool s_5) ∧ bs = [.cells true 3 [lNodes n.nodes, lLinks n.links, lEdges n.edges], .cells true 2 [ints f_.links, .int .i64 f_.node]]) ?_ ?_
   ·skip
    rcases isp H1 with ⟨c21, H1⟩ | ⟨c21, H1⟩
    rotate_left
    ·skip
     repeat apply TW.seq
     refine rkc [14] [] [(.bool true, stL [.cells true 3 [lNodes n.nodes, lLinks n.links, lEdges n.edges], .cells true 2 [ints f_.links, .int .i64 f_.node]])] (f3 hh (decide_eq_false c21) (f2 c4 c17)) ?_ ?_
     ·exact ⟨Call0.call (Pure.clr hx.san (by first | rfl | simp only [c4, c17])), trivial⟩
     clear hh h
     intro h hh
     cases H1
     exact ce hh ⟨kq hh, rfl⟩
    repeat apply TW.seq
    refine rkc [14] [] [(.bool true, stL [.cells true 3 [lNodes n.nodes, lLinks n.links, lEdges n.edges], .cells true 2 [ints f_.links, .int .i64 f_.node]])] (f3 hh (decide_eq_true c21) (f2 c4 c17)) ?_ ?_
    ·exact ⟨Call0.call (Pure.clr hx.san (by first | rfl | simp only [c4, c17])), trivial⟩
    clear hh h
    intro h hh
    cases H1
    exact ce hh ⟨kq hh, rfl⟩
   clear hh h
   rintro h bs ⟨hh, rfl⟩
   cases H
   exact rt hh
  repeat apply TW.seq
  refine ct (f2 hh c17) ?_
  obtain ⟨s_4, H1, H⟩ := bsome H
  repeat apply TW.seq
  refine cu [14] 2 (fun h bs => (h 14 = .bool s_4) ∧ bs = [.cells true 3 [lNodes n.nodes, lLinks n.links, lEdges n.edges], .cells true 2 [ints f_.links, .int .i64 f_.node]]) ?_ ?_
  ·skip
   rcases isp H1 with ⟨c18, H1⟩ | ⟨c18, H1⟩
   rotate_left
   ·skip
    repeat apply TW.seq
    refine rkc [14] [] [(.bool true, stL [.cells true 3 [lNodes n.nodes, lLinks n.links, lEdges n.edges], .cells true 2 [ints f_.links, .int .i64 f_.node]])] (f3 hh (decide_eq_false c18) (f2 c4 c17)) ?_ ?_
    ·exact ⟨Call0.call (Pure.clr hx.san (by first | rfl | simp only [c4, c17])), trivial⟩
    clear hh h
    intro h hh
    cases H1
    exact ce hh ⟨kq hh, rfl⟩
   repeat apply TW.seq
   refine rkc [14] [] [(.bool true, stL [.cells true 3 [lNodes n.nodes, lLinks n.links, lEdges n.edges], .cells true 2 [ints f_.links, .int .i64 f_.node]])] (f3 hh (decide_eq_true c18) (f2 c4 c17)) ?_ ?_
   ·exact ⟨Call0.call (Pure.clr hx.san (by first | rfl | simp only [c4, c17])), trivial⟩
   clear hh h
   intro h hh
   cases H1
   exact ce hh ⟨kq hh, rfl⟩
  clear hh h
  rintro h bs ⟨hh, rfl⟩
  cases H
  exact rt hh
 repeat apply TW.seq
 refine ct (f2 hh c4) ?_
 repeat apply TW.seq
 refine rkc [14] [] [(.bool true, stL [.cells true 3 [lNodes n.nodes, lLinks n.links, lEdges n.edges], .cells true 2 [ints f_.links, .int .i64 f_.node]])] (f2 hh c4) ?_ ?_
 ·exact ⟨Call0.call (Pure.clr hx.san (by first | rfl | simp only [c4])), trivial⟩
 clear hh h
 intro h hh
 cases H
 exact rt hh
end Go.Proofs.Ytfalnphlgfoflaa