/- Functions as plain functions, and that the code computes them. -/
import Derived.Test.YtfalnphlgfoflaaSD
import Derived.Test.YtfalnphlgfoflaaSG
namespace Go.Proofs.Ytfalnphlgfoflaa
open Go Go.RowKit
set_option linter.unusedSimpArgs false
set_option linter.unusedVariables false
set_option linter.unusedSectionVars false
set_option maxRecDepth 100000
def sl_FlowSplitsIntoStrands_L0 (k : Nat) (n : Net) (from_ : Int) (to_ : Int) (rSplit : List Strand) : Nat → Int → Int → Option Int
 | 0, _, _ => none
 | m + 1, value, i => (if i < (rSplit.length : Int) then (if (0 : Int) ≤ i ∧ i < (rSplit.length : Int) then (if (0 : Int) ≤ 0 ∧ 0 < (((gx rSplit i).links).length : Int) then (if (0 : Int) ≤ (gx ((gx rSplit i).links) 0) ∧ (gx ((gx rSplit i).links) 0) < (n.links.length : Int) then (if ((gx n.links (gx ((gx rSplit i).links) 0)).frm) = from_ then (if (0 : Int) ≤ (IntKind.i64.wrap ((((gx rSplit i).links).length : Int) - 1)) ∧ (IntKind.i64.wrap ((((gx rSplit i).links).length : Int) - 1)) < (((gx rSplit i).links).length : Int) then (if (0 : Int) ≤ (gx ((gx rSplit i).links) (IntKind.i64.wrap ((((gx rSplit i).links).length : Int) - 1))) ∧ (gx ((gx rSplit i).links) (IntKind.i64.wrap ((((gx rSplit i).links).length : Int) - 1))) < (n.links.length : Int) then (if ((gx n.links (gx ((gx rSplit i).links) (IntKind.i64.wrap ((((gx rSplit i).links).length : Int) - 1)))).to) = to_ then sl_FlowSplitsIntoStrands_L0 k n from_ to_ rSplit m (IntKind.i64.wrap (value - ((gx rSplit i).amount))) (IntKind.i64.wrap (i + 1)) else sl_FlowSplitsIntoStrands_L0 k n from_ to_ rSplit m value (IntKind.i64.wrap (i + 1))) else none) else none) else sl_FlowSplitsIntoStrands_L0 k n from_ to_ rSplit m value (IntKind.i64.wrap (i + 1))) else none) else none) else none) else some value)
def sl_FlowSplitsIntoStrands (k : Nat) (n : Net) (from_ : Int) (to_ : Int) (x : List Int) : Option Bool := ((((sl_right k n (⟨[], (-1)⟩ : Failure) from_ to_).bind fun rright => (if rright = true then some (decide (40 < (x.length : Int))) else some true)) : Option Bool).bind fun s_ => (if s_ = true then some true else ((sflow_Check k n (⟨[], (-1)⟩ : Failure) from_ to_ x).bind fun rCheck => (if rCheck.2 = true then ((sflow_Split k n from_ to_ x).bind fun rSplit => ((sflow_Strands k n from_ to_ x rSplit).bind fun rStrands => (if rStrands = true then ((sl_FlowSplitsIntoStrands_L0 k n from_ to_ rSplit k rCheck.1 0 : Option Int).bind fun s_2 => some (decide (s_2 = 0))) else some false))) else some true))))
set_option maxHeartbeats 8000000 in
theorem sl_FlowSplitsIntoStrands_ok (ax : Axs) (hx : Plain ax) (k : Nat) (n : Net) (from_ : Int) (to_ : Int) (x : List Int) (v : Bool) (H : sl_FlowSplitsIntoStrands k n from_ to_ x = some v) : Pure Try.prog (EE ax) [] 5 [eNet n, .int .i64 from_, .int .i64 to_, ints x] (.bool v) := by
 rw [sl_FlowSplitsIntoStrands] at H
 refine en [.tmp 8] 96 [0, 1, 2, 3] (hx.no _ (by decide)) (fn5 ax) ?_
 intro h hh
 repeat apply TW.seq
 refine rk [1, 2, 3, 4] [] hh ?_
 clear hh h
 intro h hh
 repeat apply TW.seq
 refine rk [1, 2, 3, 4, 9] [] (f3 hh (bt29 ax) (pl29_1 ax)) ?_
 clear hh h
 intro h hh
 obtain ⟨s_, H1, H⟩ := bsome H
 repeat apply TW.seq
 refine cu [1, 2, 3, 4, 9, 26] 2 (fun h bs => (h 1 = .int .i64 from_ ∧ h 2 = .int .i64 to_ ∧ h 3 = ints x ∧ h 4 = .ptr 0 0 3 ∧ h 9 = .ptr 1 0 2 ∧ h 26 = .bool s_) ∧ bs = [.cells true 3 [lNodes n.nodes, lLinks n.links, lEdges n.edges], .cells true 2 [ints [], .int .i64 (-1)]]) ?_ ?_
 ·skip
  repeat apply TW.seq
  refine nz 1 0 1 ?_
  obtain ⟨rright, e1, H1⟩ := bsome H1
  rcases isb H1 with ⟨c2, H1⟩ | ⟨c2, H1⟩
  rotate_left
  ·skip
   repeat apply TW.seq
   refine rkc [1, 2, 3, 4, 9, 26] [] [(.bool rright, stL [.cells true 3 [lNodes n.nodes, lLinks n.links, lEdges n.edges], .cells true 2 [ints [], .int .i64 (-1)]])] (f2 hh c2) ?_ ?_
   ·exact ⟨Call0.call (Pure.clr (sl_right_ok ax hx k n (⟨[], (-1)⟩ : Failure) from_ to_ rright e1 ) (by first | rfl | simp only [c2])), trivial⟩
   clear hh h
   intro h hh
   cases H1
   exact ce hh ⟨kq hh, rfl⟩
  repeat apply TW.seq
  refine rkc [1, 2, 3, 4, 9, 26] [] [(.bool rright, stL [.cells true 3 [lNodes n.nodes, lLinks n.links, lEdges n.edges], .cells true 2 [ints [], .int .i64 (-1)]])] (f2 hh c2) ?_ ?_
  ·exact ⟨Call0.call (Pure.clr (sl_right_ok ax hx k n (⟨[], (-1)⟩ : Failure) from_ to_ rright e1 ) (by first | rfl | simp only [c2])), trivial⟩
  clear hh h
  intro h hh
  cases H1
  exact ce hh ⟨kq hh, rfl⟩
 clear hh h
 rintro h bs ⟨hh, rfl⟩
 rcases isb H with ⟨c3, H⟩ | ⟨c3, H⟩
 rotate_left
 ·skip
  repeat apply TW.seq
  refine cf (f2 hh c3) ?_
  repeat apply TW.seq
  refine sk ?_
  obtain ⟨rCheck, e4, H⟩ := bsome H
  repeat apply TW.seq
  refine rkc [1, 2, 3, 4, 10, 11] [] [(.tup [.int .i64 rCheck.1, .bool rCheck.2], stL [.cells true 3 [lNodes n.nodes, lLinks n.links, lEdges n.edges], .cells true 2 [ints [], .int .i64 (-1)]])] (f2 hh c3) ?_ ?_
  ·exact ⟨Call0.call (Pure.clr (sflow_Check_ok ax hx k n (⟨[], (-1)⟩ : Failure) from_ to_ x rCheck e4 ) (by first | rfl | simp only [c3])), trivial⟩
  clear hh h
  intro h hh
  repeat apply TW.seq
  refine rk [1, 2, 3, 4, 10, 38] [] (f2 hh c3) ?_
  clear hh h
  intro h hh
  rcases isb H with ⟨c5, H⟩ | ⟨c5, H⟩
  rotate_left
  ·skip
   repeat apply TW.seq
   refine ct (f2 hh c5) ?_
   repeat apply TW.seq
   refine rkc [8] [] [(.bool true, stL [.cells true 3 [lNodes n.nodes, lLinks n.links, lEdges n.edges], .cells true 2 [ints [], .int .i64 (-1)]])] (f3 hh c3 c5) ?_ ?_
   ·exact ⟨Call0.call (Pure.clr hx.san (by first | rfl | simp only [c3, c5])), trivial⟩
   clear hh h
   intro h hh
   cases H
   exact rt hh
  repeat apply TW.seq
  refine cf (f2 hh c5) ?_
  repeat apply TW.seq
  refine sk ?_
  obtain ⟨rSplit, e6, H⟩ := bsome H
  repeat apply TW.seq
  refine rkc [1, 2, 3, 4, 10, 12] [] [(lStrands rSplit, stL [.cells true 3 [lNodes n.nodes, lLinks n.links, lEdges n.edges], .cells true 2 [ints [], .int .i64 (-1)]])] (f3 hh c3 c5) ?_ ?_
  ·exact ⟨Call0.call (Pure.clr (sflow_Split_ok ax hx k n from_ to_ x rSplit e6 ) (by first | rfl | simp only [c3, c5])), trivial⟩
  clear hh h
  intro h hh
  obtain ⟨rStrands, e7, H⟩ := bsome H
  repeat apply TW.seq
  refine rkc [1, 2, 4, 10, 12, 51] [] [(.bool rStrands, stL [.cells true 3 [lNodes n.nodes, lLinks n.links, lEdges n.edges], .cells true 2 [ints [], .int .i64 (-1)]])] (f3 hh c3 c5) ?_ ?_
  ·exact ⟨Call0.call (Pure.clr (sflow_Strands_ok ax hx k n from_ to_ x rSplit rStrands e7 ) (by first | rfl | simp only [c3, c5])), trivial⟩
  clear hh h
  intro h hh
  rcases isb H with ⟨c8, H⟩ | ⟨c8, H⟩
  rotate_left
  ·skip
   repeat apply TW.seq
   refine ct (f2 hh c8) ?_
   repeat apply TW.seq
   refine rk [8] [] (f3 hh c3 (f2 c5 c8)) ?_
   clear hh h
   intro h hh
   cases H
   exact rt hh
  repeat apply TW.seq
  refine cf (f2 hh c8) ?_
  repeat apply TW.seq
  refine sk ?_
  repeat apply TW.seq
  refine rk [1, 2, 4, 10, 52, 53, 54] [] (f3 hh c3 (f2 c5 c8)) ?_
  clear hh h
  intro h hh
  obtain ⟨s_2, H1, H⟩ := bsome H
  repeat apply TW.seq
  refine cu [10] 2 (fun h bs => (h 10 = .int .i64 s_2) ∧ bs = [.cells true 3 [lNodes n.nodes, lLinks n.links, lEdges n.edges], .cells true 2 [ints [], .int .i64 (-1)]]) ?_ ?_
  ·skip
   repeat apply TW.seq
   apply TW.block
   repeat apply TW.seq
   refine TW.loopT [1, 2, 4, 10, 52, 53, 54] (fun m h bs => ∃ (value : Int) (i : Int), sl_FlowSplitsIntoStrands_L0 k n from_ to_ rSplit m value i = some s_2 ∧ (h 1 = .int .i64 from_ ∧ h 2 = .int .i64 to_ ∧ h 4 = .ptr 0 0 3 ∧ h 10 = .int .i64 value ∧ h 52 = lStrands rSplit ∧ h 53 = .int .i64 (rSplit.length : Int) ∧ h 54 = .int .i64 i) ∧ bs = [.cells true 3 [lNodes n.nodes, lLinks n.links, lEdges n.edges], .cells true 2 [ints [], .int .i64 (-1)]]) ?_ k _ _ ?_
   rotate_left
   ·exact ⟨rCheck.1, 0, H1, kq hh, rfl⟩
   clear hh h H1
   rintro m h bs ⟨value, i, H1, hh, rfl⟩
   rcases m with _ | m
   ·rw [sl_FlowSplitsIntoStrands_L0] at H1; cases H1
   rw [sl_FlowSplitsIntoStrands_L0] at H1
   repeat apply TW.seq
   refine rk [1, 2, 4, 10, 52, 53, 54, 55] [] (f3 hh c3 (f2 c5 c8)) ?_
   clear hh h
   intro h hh
   rcases isp H1 with ⟨c9, H1⟩ | ⟨c9, H1⟩
   rotate_left
   ·skip
    repeat apply TW.seq
    refine cf (f2 hh (decide_eq_false c9)) ?_
    refine xk ?_
    cases H1
    exact ce hh ⟨kq hh, rfl⟩
   repeat apply TW.seq
   refine ct (f2 hh (decide_eq_true c9)) ?_
   repeat apply TW.seq
   refine sk ?_
   repeat apply TW.seq
   apply TW.block
   obtain ⟨g10, H1⟩ := isg H1
   repeat apply TW.seq
   refine rk [1, 2, 4, 10, 14, 52, 53, 54] [] (f3 hh c3 (f3 c5 c8 (gx_some g10))) ?_
   clear hh h
   intro h hh
   obtain ⟨g11, H1⟩ := isg H1
   obtain ⟨g12, H1⟩ := isg H1
   rcases isp H1 with ⟨c13, H1⟩ | ⟨c13, H1⟩
   rotate_left
   ·skip
    repeat apply TW.seq
    refine dk 22 [1, 2, 4, 10, 14, 52, 53, 54, 85] [] [] [] (f3 hh (decide_eq_false c13) (f3 c3 c5 (f3 c8 (gx_some g11) (gx_some g12)))) trivial trivial ?_
    clear hh h
    intro h hh
    repeat apply TW.seq
    refine cf hh ?_
    repeat apply TW.seq
    refine sk ?_
    repeat apply TW.seq
    refine rk [1, 2, 4, 10, 52, 53, 54] [] (f3 hh c3 (f2 c5 c8)) ?_
    clear hh h
    intro h hh
    exact rd m hh ⟨value, (IntKind.i64.wrap (i + 1)), H1, kq hh, rfl⟩
   obtain ⟨g14, H1⟩ := isg H1
   obtain ⟨g15, H1⟩ := isg H1
   repeat apply TW.seq
   refine dk 22 [1, 2, 4, 10, 14, 52, 53, 54, 85] [] [] [] (f3 hh (decide_eq_true c13) (f3 c3 c5 (f3 c8 (gx_some g11) (f3 (gx_some g12) (gx_some g14) (gx_some g15))))) trivial trivial ?_
   clear hh h
   intro h hh
   rcases isp H1 with ⟨c16, H1⟩ | ⟨c16, H1⟩
   rotate_left
   ·skip
    repeat apply TW.seq
    refine cf (f2 hh (decide_eq_false c16)) ?_
    repeat apply TW.seq
    refine sk ?_
    repeat apply TW.seq
    refine rk [1, 2, 4, 10, 52, 53, 54] [] (f3 hh c3 (f2 c5 c8)) ?_
    clear hh h
    intro h hh
    exact rd m hh ⟨value, (IntKind.i64.wrap (i + 1)), H1, kq hh, rfl⟩
   repeat apply TW.seq
   refine ct (f2 hh (decide_eq_true c16)) ?_
   repeat apply TW.seq
   refine rk [1, 2, 4, 10, 52, 53, 54] [] (f3 hh c3 (f2 c5 c8)) ?_
   clear hh h
   intro h hh
   repeat apply TW.seq
   refine rk [1, 2, 4, 10, 52, 53, 54] [] (f3 hh c3 (f2 c5 c8)) ?_
   clear hh h
   intro h hh
   exact rd m hh ⟨(IntKind.i64.wrap (value - ((gx rSplit i).amount))), (IntKind.i64.wrap (i + 1)), H1, kq hh, rfl⟩
  clear hh h
  rintro h bs ⟨hh, rfl⟩
  repeat apply TW.seq
  refine rkc [8] [] [(.bool true, stL [.cells true 3 [lNodes n.nodes, lLinks n.links, lEdges n.edges], .cells true 2 [ints [], .int .i64 (-1)]])] (f3 hh c3 (f2 c5 c8)) ?_ ?_
  ·exact ⟨Call0.call (Pure.clr hx.san (by first | rfl | simp only [c3, c5, c8])), trivial⟩
  clear hh h
  intro h hh
  cases H
  exact rt hh
 repeat apply TW.seq
 refine ct (f2 hh c3) ?_
 repeat apply TW.seq
 refine rkc [8] [] [(.bool true, stL [.cells true 3 [lNodes n.nodes, lLinks n.links, lEdges n.edges], .cells true 2 [ints [], .int .i64 (-1)]])] (f2 hh c3) ?_ ?_
 ·exact ⟨Call0.call (Pure.clr hx.san (by first | rfl | simp only [c3])), trivial⟩
 clear hh h
 intro h hh
 cases H
 exact rt hh
end Go.Proofs.Ytfalnphlgfoflaa