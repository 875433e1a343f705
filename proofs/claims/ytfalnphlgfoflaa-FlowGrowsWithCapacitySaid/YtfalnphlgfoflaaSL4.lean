/- Functions as plain functions, and that the code computes them. -/
import Derived.Test.YtfalnphlgfoflaaSE
import Derived.Test.YtfalnphlgfoflaaRf
namespace Go.Proofs.Ytfalnphlgfoflaa
open Go Go.RowKit
set_option linter.unusedSimpArgs false
set_option linter.unusedVariables false
set_option linter.unusedSectionVars false
set_option maxRecDepth 100000
def sl_FlowGrowsWithCapacity_L0 (k : Nat) (n : Net) : Nat → Int → Option (Bool ⊕ Unit)
 | 0, _ => none
 | m + 1, i => (if i < (n.links.length : Int) then (if (0 : Int) ≤ i ∧ i < (n.links.length : Int) then (if 1000 < ((gx n.links i).cap) then some (.inl true) else sl_FlowGrowsWithCapacity_L0 k n m (IntKind.i64.wrap (i + 1))) else none) else some (.inr ()))
def sl_FlowGrowsWithCapacity (k : Nat) (n : Net) (f_ : Failure) (from_ : Int) (to_ : Int) (link : Int) : Option Bool := ((((sl_right k n f_ from_ to_).bind fun rright => (if rright = true then (if from_ = to_ then some true else (if link < 0 then some true else some (decide ((n.links.length : Int) ≤ link)))) else some true)) : Option Bool).bind fun s_ => (if s_ = true then some true else ((sl_FlowGrowsWithCapacity_L0 k n k 0 : Option (Bool ⊕ Unit)).bind fun o => Sum.elim (fun r => some r) (fun s_2 => (((if (0 + n.links.length) * 25 ≤ 1000000000 then (if n.links.length = 0 then some ([], 0) else some (n.links, n.links.length)) else none) : Option (List Link × Nat)).bind fun s_3 => (if (0 : Int) ≤ link ∧ link < (s_3.2 : Int) then (if link.toNat < s_3.1.length then ((sflow_Max k n f_ from_ to_).bind fun rMax => (if (s_3.1.set link.toNat ({ s_3.1.getD link.toNat default with cap := IntKind.i64.wrap (((s_3.1.getD link.toNat default).cap) + 1) })).length = s_3.2 then ((sflow_Max k (⟨n.nodes, s_3.1.set link.toNat ({ s_3.1.getD link.toNat default with cap := IntKind.i64.wrap (((s_3.1.getD link.toNat default).cap) + 1) }), n.edges⟩ : Net) f_ from_ to_).bind fun rMax2 => ((sflow_Max k n (⟨[], (-1)⟩ : Failure) from_ to_).bind fun rMax3 => ((sflow_Check k n f_ from_ to_ rMax.1).bind fun rCheck => ((sflow_Check k (⟨n.nodes, s_3.1.set link.toNat ({ s_3.1.getD link.toNat default with cap := IntKind.i64.wrap (((s_3.1.getD link.toNat default).cap) + 1) }), n.edges⟩ : Net) f_ from_ to_ rMax2.1).bind fun rCheck2 => ((sflow_Check k n (⟨[], (-1)⟩ : Failure) from_ to_ rMax3.1).bind fun rCheck3 => (if rMax.2.2 = 0 then (if rMax2.2.2 = 0 then (if rMax3.2.2 = 0 then (if rCheck.2 = true then (if rCheck2.2 = true then (if rCheck3.2 = true then (if rCheck2.1 = rCheck.1 then some (decide (rCheck.1 ≤ rCheck3.1)) else (if rCheck2.1 = (IntKind.i64.wrap (rCheck.1 + 1)) then some (decide (rCheck.1 ≤ rCheck3.1)) else some false)) else some false) else some false) else some false) else some false) else some false) else some false)))))) else none)) else none) else none))) o)))
set_option maxHeartbeats 8000000 in
theorem sl_FlowGrowsWithCapacity_ok (ax : Axs) (hx : Plain ax) (k : Nat) (n : Net) (f_ : Failure) (from_ : Int) (to_ : Int) (link : Int) (v : Bool) (H : sl_FlowGrowsWithCapacity k n f_ from_ to_ link = some v) : Pure Try.prog (EE ax) [] 8 [eNet n, eFail f_, .int .i64 from_, .int .i64 to_, .int .i64 link] (.bool v) := by
 rw [sl_FlowGrowsWithCapacity] at H
 refine en [.tmp 10] 173 [0, 1, 2, 3, 4] (hx.no _ (by decide)) (fn8 ax) ?_
 intro h hh
 repeat apply TW.seq
 refine rk [2, 3, 4, 5, 6] [] hh ?_
 clear hh h
 intro h hh
 obtain ⟨s_, H1, H⟩ := bsome H
 repeat apply TW.seq
 refine cu [2, 3, 4, 5, 6, 51] 2 (fun h bs => (h 2 = .int .i64 from_ ∧ h 3 = .int .i64 to_ ∧ h 4 = .int .i64 link ∧ h 5 = .ptr 0 0 3 ∧ h 6 = .ptr 1 0 2 ∧ h 51 = .bool s_) ∧ bs = [.cells true 3 [lNodes n.nodes, lLinks n.links, lEdges n.edges], .cells true 2 [ints f_.links, .int .i64 f_.node]]) ?_ ?_
 ·skip
  obtain ⟨rright, e1, H1⟩ := bsome H1
  rcases isb H1 with ⟨c2, H1⟩ | ⟨c2, H1⟩
  rotate_left
  ·skip
   repeat apply TW.seq
   refine rkc [2, 3, 4, 5, 6, 51] [] [(.bool rright, stL [.cells true 3 [lNodes n.nodes, lLinks n.links, lEdges n.edges], .cells true 2 [ints f_.links, .int .i64 f_.node]])] (f2 hh c2) ?_ ?_
   ·exact ⟨Call0.call (Pure.clr (sl_right_ok ax hx k n f_ from_ to_ rright e1 ) (by first | rfl | simp only [c2])), trivial⟩
   clear hh h
   intro h hh
   cases H1
   exact ce hh ⟨kq hh, rfl⟩
  rcases isp H1 with ⟨c3, H1⟩ | ⟨c3, H1⟩
  rotate_left
  ·skip
   rcases isp H1 with ⟨c4, H1⟩ | ⟨c4, H1⟩
   rotate_left
   ·skip
    repeat apply TW.seq
    refine rkc [2, 3, 4, 5, 6, 51] [] [(.bool rright, stL [.cells true 3 [lNodes n.nodes, lLinks n.links, lEdges n.edges], .cells true 2 [ints f_.links, .int .i64 f_.node]])] (f3 hh c2 (f2 (decide_eq_false c3) (decide_eq_false c4))) ?_ ?_
    ·exact ⟨Call0.call (Pure.clr (sl_right_ok ax hx k n f_ from_ to_ rright e1 ) (by first | rfl | simp only [c2])), trivial⟩
    clear hh h
    intro h hh
    cases H1
    exact ce hh ⟨kq hh, rfl⟩
   repeat apply TW.seq
   refine rkc [2, 3, 4, 5, 6, 51] [] [(.bool rright, stL [.cells true 3 [lNodes n.nodes, lLinks n.links, lEdges n.edges], .cells true 2 [ints f_.links, .int .i64 f_.node]])] (f3 hh c2 (f2 (decide_eq_false c3) (decide_eq_true c4))) ?_ ?_
   ·exact ⟨Call0.call (Pure.clr (sl_right_ok ax hx k n f_ from_ to_ rright e1 ) (by first | rfl | simp only [c2])), trivial⟩
   clear hh h
   intro h hh
   cases H1
   exact ce hh ⟨kq hh, rfl⟩
  repeat apply TW.seq
  refine rkc [2, 3, 4, 5, 6, 51] [] [(.bool rright, stL [.cells true 3 [lNodes n.nodes, lLinks n.links, lEdges n.edges], .cells true 2 [ints f_.links, .int .i64 f_.node]])] (f3 hh c2 (decide_eq_true c3)) ?_ ?_
  ·exact ⟨Call0.call (Pure.clr (sl_right_ok ax hx k n f_ from_ to_ rright e1 ) (by first | rfl | simp only [c2])), trivial⟩
  clear hh h
  intro h hh
  cases H1
  exact ce hh ⟨kq hh, rfl⟩
 clear hh h
 rintro h bs ⟨hh, rfl⟩
 rcases isb H with ⟨c5, H⟩ | ⟨c5, H⟩
 rotate_left
 ·skip
  repeat apply TW.seq
  refine cf (f2 hh c5) ?_
  repeat apply TW.seq
  refine sk ?_
  repeat apply TW.seq
  refine rk [2, 3, 4, 5, 6, 54, 55, 56] [] (f2 hh c5) ?_
  clear hh h
  intro h hh
  obtain ⟨o, H1, H⟩ := bsome H
  repeat apply TW.seq
  refine cu [2, 3, 4, 5, 6] 2 (fun h bs => ∃ s_2 : Unit, o = .inr s_2 ∧ (h 2 = .int .i64 from_ ∧ h 3 = .int .i64 to_ ∧ h 4 = .int .i64 link ∧ h 5 = .ptr 0 0 3 ∧ h 6 = .ptr 1 0 2) ∧ bs = [.cells true 3 [lNodes n.nodes, lLinks n.links, lEdges n.edges], .cells true 2 [ints f_.links, .int .i64 f_.node]]) ?_ ?_
  ·skip
   repeat apply TW.seq
   apply TW.block
   repeat apply TW.seq
   refine TW.loopT [2, 3, 4, 5, 6, 54, 55, 56] (fun m h bs => ∃ (i : Int), sl_FlowGrowsWithCapacity_L0 k n m i = some o ∧ (h 2 = .int .i64 from_ ∧ h 3 = .int .i64 to_ ∧ h 4 = .int .i64 link ∧ h 5 = .ptr 0 0 3 ∧ h 6 = .ptr 1 0 2 ∧ h 54 = lLinks n.links ∧ h 55 = .int .i64 (n.links.length : Int) ∧ h 56 = .int .i64 i) ∧ bs = [.cells true 3 [lNodes n.nodes, lLinks n.links, lEdges n.edges], .cells true 2 [ints f_.links, .int .i64 f_.node]]) ?_ k _ _ ?_
   rotate_left
   ·exact ⟨0, H1, kq hh, rfl⟩
   clear hh h H1
   rintro m h bs ⟨i, H1, hh, rfl⟩
   rcases m with _ | m
   ·rw [sl_FlowGrowsWithCapacity_L0] at H1; cases H1
   rw [sl_FlowGrowsWithCapacity_L0] at H1
   repeat apply TW.seq
   refine rk [2, 3, 4, 5, 6, 54, 55, 56, 57] [] (f2 hh c5) ?_
   clear hh h
   intro h hh
   rcases isp H1 with ⟨c6, H1⟩ | ⟨c6, H1⟩
   rotate_left
   ·skip
    repeat apply TW.seq
    refine cf (f2 hh (decide_eq_false c6)) ?_
    refine xk ?_
    cases H1
    exact ce hh ⟨_, rfl, kq hh, rfl⟩
   repeat apply TW.seq
   refine ct (f2 hh (decide_eq_true c6)) ?_
   repeat apply TW.seq
   refine sk ?_
   repeat apply TW.seq
   apply TW.block
   obtain ⟨g7, H1⟩ := isg H1
   repeat apply TW.seq
   refine rk [2, 3, 4, 5, 6, 12, 54, 55, 56] [] (f3 hh c5 (gx_some g7)) ?_
   clear hh h
   intro h hh
   repeat apply TW.seq
   refine rk [2, 3, 4, 5, 6, 54, 55, 56, 62] [] (f2 hh c5) ?_
   clear hh h
   intro h hh
   rcases isp H1 with ⟨c8, H1⟩ | ⟨c8, H1⟩
   rotate_left
   ·skip
    repeat apply TW.seq
    refine cf (f2 hh (decide_eq_false c8)) ?_
    repeat apply TW.seq
    refine sk ?_
    repeat apply TW.seq
    refine rk [2, 3, 4, 5, 6, 54, 55, 56] [] (f2 hh c5) ?_
    clear hh h
    intro h hh
    exact rd m hh ⟨(IntKind.i64.wrap (i + 1)), H1, kq hh, rfl⟩
   repeat apply TW.seq
   refine ct (f2 hh (decide_eq_true c8)) ?_
   repeat apply TW.seq
   refine rkc [10] [] [(.bool true, stL [.cells true 3 [lNodes n.nodes, lLinks n.links, lEdges n.edges], .cells true 2 [ints f_.links, .int .i64 f_.node], .cells true 3 [.int .i64 ((gx n.links i).frm), .int .i64 ((gx n.links i).to), .int .i64 ((gx n.links i).cap)]])] (f2 hh c5) ?_ ?_
   ·exact ⟨Call0.call (Pure.clr hx.san (by first | rfl | simp only [c5])), trivial⟩
   clear hh h
   intro h hh
   cases H1
   obtain rfl := sinl H
   exact rt hh
  clear hh h
  rintro h bs ⟨s_2, rfl, hh, rfl⟩
  replace H := sinr H
  repeat apply TW.seq
  refine rk [2, 3, 4, 5, 6, 13] [] (f2 hh c5) ?_
  clear hh h
  intro h hh
  obtain ⟨s_3, H1, H⟩ := bsome H
  repeat apply TW.seq
  refine cu [2, 3, 4, 5, 6, 13] 4 (fun h bs => ∃ z9, (h 2 = .int .i64 from_ ∧ h 3 = .int .i64 to_ ∧ h 4 = .int .i64 link ∧ h 5 = .ptr 0 0 3 ∧ h 6 = .ptr 1 0 2 ∧ h 13 = .ptr 2 0 3) ∧ bs = [.cells true 3 [lNodes n.nodes, lLinks n.links, lEdges n.edges], .cells true 2 [ints f_.links, .int .i64 f_.node], .cells true 3 [lNodes n.nodes, .arr 3 3 0 s_3.2 s_3.2 (s_3.2 * 3), lEdges n.edges], .cells z9 (s_3.2 * 3) (vecC eLink s_3.1)]) ?_ ?_
  ·skip
   obtain ⟨g10, H1⟩ := isg H1
   rcases isp H1 with ⟨c11, H1⟩ | ⟨c11, H1⟩
   rotate_left
   ·skip
    repeat apply TW.seq
    refine rg [66] [] [.cells true 3 [lNodes n.nodes, lLinks n.links, lEdges n.edges], .cells true 2 [ints f_.links, .int .i64 f_.node], .cells true 3 [lNodes n.nodes, .arr 3 3 0 n.links.length n.links.length (n.links.length * 3), lEdges n.edges], .cells false (n.links.length * 3) (vecC eLink n.links)] (fun h => h 2 = .int .i64 from_ ∧ h 3 = .int .i64 to_ ∧ h 4 = .int .i64 link ∧ h 5 = .ptr 0 0 3 ∧ h 6 = .ptr 1 0 2 ∧ h 13 = .ptr 2 0 3) (f3 hh c5 (f3 (flat_vec eLink n.links) (vecC_len (f := eLink) (e := 3) (fun _ => rfl) n.links) (f3 (vecC_all (f := eLink) (fun _ => rfl) n.links) (el23 ax) (sr23 ax)))) trivial ?_
    clear hh h
    intro h hh
    cases H1
    exact ce (f2 hh ((fun m => ids_vec (n := m) (f := eLink) (fun _ => rfl)))) ⟨_, kq hh, rfl⟩
   repeat apply TW.seq
   refine rg [66] [] [.cells true 3 [lNodes n.nodes, lLinks n.links, lEdges n.edges], .cells true 2 [ints f_.links, .int .i64 f_.node], .cells true 3 [lNodes n.nodes, .arr 3 3 0 0 0 (0 * 3), lEdges n.edges], .cells true (0 * 3) (vecC eLink [])] (fun h => h 2 = .int .i64 from_ ∧ h 3 = .int .i64 to_ ∧ h 4 = .int .i64 link ∧ h 5 = .ptr 0 0 3 ∧ h 6 = .ptr 1 0 2 ∧ h 13 = .ptr 2 0 3) (f3 hh c5 (f3 c11 (flat_vec eLink n.links) (f3 (vecC_len (f := eLink) (e := 3) (fun _ => rfl) n.links) (vecC_all (f := eLink) (fun _ => rfl) n.links) (f2 (el23 ax) (sr23 ax))))) trivial ?_
   clear hh h
   intro h hh
   cases H1
   exact ce (f2 hh ((fun m => ids_vec (n := m) (f := eLink) (fun _ => rfl)))) ⟨_, kq hh, rfl⟩
  clear hh h
  rintro h bs ⟨z9, hh, rfl⟩
  refine uz 3 ?_
  obtain ⟨g12, H⟩ := isg H
  obtain ⟨g13, H⟩ := isg H
  repeat apply TW.seq
  refine rk [2, 3, 5, 6, 13] [] (f3 hh c5 (f2 (vecC_at eLink 3 2 (fun _ => rfl) (by decide) g13) (vecC_setf eLink 3 2 ({ s_3.1.getD link.toNat default with cap := IntKind.i64.wrap (((s_3.1.getD link.toNat default).cap) + 1) }) (fun _ => rfl) (by decide) g13 (by rfl)))) ?_
  clear hh h
  intro h hh
  repeat apply TW.seq
  refine rk [2, 3, 5, 6, 13, 14] [] (f3 hh c5 (f2 (bt29 ax) (pl29_1 ax))) ?_
  clear hh h
  intro h hh
  obtain ⟨rMax, e14, H⟩ := bsome H
  repeat apply TW.seq
  refine rkc [2, 3, 5, 6, 13, 14, 15, 17] [] [(.tup [ints rMax.1, ints rMax.2.1, .int .i64 rMax.2.2], stL [.cells true 3 [lNodes n.nodes, lLinks n.links, lEdges n.edges], .cells true 2 [ints f_.links, .int .i64 f_.node], .cells true 3 [lNodes n.nodes, .arr 3 3 0 s_3.2 s_3.2 (s_3.2 * 3), lEdges n.edges], .cells false (s_3.2 * 3) (vecC eLink (s_3.1.set link.toNat ({ s_3.1.getD link.toNat default with cap := IntKind.i64.wrap (((s_3.1.getD link.toNat default).cap) + 1) }))), .cells true 2 [.nils, .int .i64 (-1)]])] (f2 hh c5) ?_ ?_
  ·exact ⟨Call0.call (Pure.clr (sflow_Max_ok ax hx k n f_ from_ to_ rMax e14 ) (by first | rfl | simp only [c5])), trivial⟩
  clear hh h
  intro h hh
  obtain ⟨g15, H⟩ := isg H
  repeat apply TW.seq
  refine fz 2 3 1 ((s_3.1.set link.toNat ({ s_3.1.getD link.toNat default with cap := IntKind.i64.wrap (((s_3.1.getD link.toNat default).cap) + 1) })).map eLink) (by rw [List.drop_zero]; exact vecC_take (e := 3) (fun _ => rfl) g15) (fun t ht => by obtain ⟨x, _, rfl⟩ := List.mem_map.1 ht; first | rfl | (rw [List.length_map]; rfl)) (by rw [List.length_map]; exact g15) ?_
  obtain ⟨rMax2, e16, H⟩ := bsome H
  repeat apply TW.seq
  refine rkc [2, 3, 5, 6, 13, 14, 15, 17, 18, 20] [] [(.tup [ints rMax2.1, ints rMax2.2.1, .int .i64 rMax2.2.2], stL [.cells true 3 [lNodes n.nodes, lLinks n.links, lEdges n.edges], .cells true 2 [ints f_.links, .int .i64 f_.node], .cells true 3 [lNodes n.nodes, lLinks (s_3.1.set link.toNat ({ s_3.1.getD link.toNat default with cap := IntKind.i64.wrap (((s_3.1.getD link.toNat default).cap) + 1) })), lEdges n.edges], .gone, .cells true 2 [.nils, .int .i64 (-1)]])] (f2 hh c5) ?_ ?_
  ·exact ⟨Call0.call (Pure.clr (sflow_Max_ok ax hx k (⟨n.nodes, s_3.1.set link.toNat ({ s_3.1.getD link.toNat default with cap := IntKind.i64.wrap (((s_3.1.getD link.toNat default).cap) + 1) }), n.edges⟩ : Net) f_ from_ to_ rMax2 e16 ) (by first | rfl | simp only [c5])), trivial⟩
  clear hh h
  intro h hh
  repeat apply TW.seq
  refine nz 4 0 1 ?_
  obtain ⟨rMax3, e17, H⟩ := bsome H
  repeat apply TW.seq
  refine rkc [2, 3, 5, 6, 13, 14, 15, 17, 18, 20, 21, 23] [] [(.tup [ints rMax3.1, ints rMax3.2.1, .int .i64 rMax3.2.2], stL [.cells true 3 [lNodes n.nodes, lLinks n.links, lEdges n.edges], .cells true 2 [ints f_.links, .int .i64 f_.node], .cells true 3 [lNodes n.nodes, lLinks (s_3.1.set link.toNat ({ s_3.1.getD link.toNat default with cap := IntKind.i64.wrap (((s_3.1.getD link.toNat default).cap) + 1) })), lEdges n.edges], .gone, .cells true 2 [ints [], .int .i64 (-1)]])] (f2 hh c5) ?_ ?_
  ·exact ⟨Call0.call (Pure.clr (sflow_Max_ok ax hx k n (⟨[], (-1)⟩ : Failure) from_ to_ rMax3 e17 ) (by first | rfl | simp only [c5])), trivial⟩
  clear hh h
  intro h hh
  obtain ⟨rCheck, e18, H⟩ := bsome H
  repeat apply TW.seq
  refine rkc [2, 3, 5, 6, 13, 14, 17, 18, 20, 21, 23, 24, 25] [] [(.tup [.int .i64 rCheck.1, .bool rCheck.2], stL [.cells true 3 [lNodes n.nodes, lLinks n.links, lEdges n.edges], .cells true 2 [ints f_.links, .int .i64 f_.node], .cells true 3 [lNodes n.nodes, lLinks (s_3.1.set link.toNat ({ s_3.1.getD link.toNat default with cap := IntKind.i64.wrap (((s_3.1.getD link.toNat default).cap) + 1) })), lEdges n.edges], .gone, .cells true 2 [ints [], .int .i64 (-1)]])] (f2 hh c5) ?_ ?_
  ·exact ⟨Call0.call (Pure.clr (sflow_Check_ok ax hx k n f_ from_ to_ rMax.1 rCheck e18 ) (by first | rfl | simp only [c5])), trivial⟩
  clear hh h
  intro h hh
  obtain ⟨rCheck2, e19, H⟩ := bsome H
  repeat apply TW.seq
  refine rkc [2, 3, 5, 14, 17, 20, 21, 23, 24, 25, 26, 27] [] [(.tup [.int .i64 rCheck2.1, .bool rCheck2.2], stL [.cells true 3 [lNodes n.nodes, lLinks n.links, lEdges n.edges], .cells true 2 [ints f_.links, .int .i64 f_.node], .cells true 3 [lNodes n.nodes, lLinks (s_3.1.set link.toNat ({ s_3.1.getD link.toNat default with cap := IntKind.i64.wrap (((s_3.1.getD link.toNat default).cap) + 1) })), lEdges n.edges], .gone, .cells true 2 [ints [], .int .i64 (-1)]])] (f2 hh c5) ?_ ?_
  ·exact ⟨Call0.call (Pure.clr (sflow_Check_ok ax hx k (⟨n.nodes, s_3.1.set link.toNat ({ s_3.1.getD link.toNat default with cap := IntKind.i64.wrap (((s_3.1.getD link.toNat default).cap) + 1) }), n.edges⟩ : Net) f_ from_ to_ rMax2.1 rCheck2 e19 ) (by first | rfl | simp only [c5])), trivial⟩
  clear hh h
  intro h hh
  obtain ⟨rCheck3, e20, H⟩ := bsome H
  repeat apply TW.seq
  refine rkc [17, 20, 23, 24, 25, 26, 27, 28, 29] [] [(.tup [.int .i64 rCheck3.1, .bool rCheck3.2], stL [.cells true 3 [lNodes n.nodes, lLinks n.links, lEdges n.edges], .cells true 2 [ints f_.links, .int .i64 f_.node], .cells true 3 [lNodes n.nodes, lLinks (s_3.1.set link.toNat ({ s_3.1.getD link.toNat default with cap := IntKind.i64.wrap (((s_3.1.getD link.toNat default).cap) + 1) })), lEdges n.edges], .gone, .cells true 2 [ints [], .int .i64 (-1)]])] (f2 hh c5) ?_ ?_
  ·exact ⟨Call0.call (Pure.clr (sflow_Check_ok ax hx k n (⟨[], (-1)⟩ : Failure) from_ to_ rMax3.1 rCheck3 e20 ) (by first | rfl | simp only [c5])), trivial⟩
  clear hh h
  intro h hh
  rcases isp H with ⟨c21, H⟩ | ⟨c21, H⟩
  rotate_left
  ·skip
   repeat apply TW.seq
   refine rkc [10] [] [(.bool true, stL [.cells true 3 [lNodes n.nodes, lLinks n.links, lEdges n.edges], .cells true 2 [ints f_.links, .int .i64 f_.node], .cells true 3 [lNodes n.nodes, lLinks (s_3.1.set link.toNat ({ s_3.1.getD link.toNat default with cap := IntKind.i64.wrap (((s_3.1.getD link.toNat default).cap) + 1) })), lEdges n.edges], .gone, .cells true 2 [ints [], .int .i64 (-1)]])] (f3 hh (decide_eq_false c21) c5) ?_ ?_
   ·exact ⟨Call0.call (Pure.clr hx.san (by first | rfl | simp only [c5])), trivial⟩
   clear hh h
   intro h hh
   cases H
   exact rt hh
  rcases isp H with ⟨c22, H⟩ | ⟨c22, H⟩
  rotate_left
  ·skip
   repeat apply TW.seq
   refine rkc [10] [] [(.bool true, stL [.cells true 3 [lNodes n.nodes, lLinks n.links, lEdges n.edges], .cells true 2 [ints f_.links, .int .i64 f_.node], .cells true 3 [lNodes n.nodes, lLinks (s_3.1.set link.toNat ({ s_3.1.getD link.toNat default with cap := IntKind.i64.wrap (((s_3.1.getD link.toNat default).cap) + 1) })), lEdges n.edges], .gone, .cells true 2 [ints [], .int .i64 (-1)]])] (f3 hh (decide_eq_true c21) (f2 (decide_eq_false c22) c5)) ?_ ?_
   ·exact ⟨Call0.call (Pure.clr hx.san (by first | rfl | simp only [c5])), trivial⟩
   clear hh h
   intro h hh
   cases H
   exact rt hh
  rcases isp H with ⟨c23, H⟩ | ⟨c23, H⟩
  rotate_left
  ·skip
   repeat apply TW.seq
   refine rkc [10] [] [(.bool true, stL [.cells true 3 [lNodes n.nodes, lLinks n.links, lEdges n.edges], .cells true 2 [ints f_.links, .int .i64 f_.node], .cells true 3 [lNodes n.nodes, lLinks (s_3.1.set link.toNat ({ s_3.1.getD link.toNat default with cap := IntKind.i64.wrap (((s_3.1.getD link.toNat default).cap) + 1) })), lEdges n.edges], .gone, .cells true 2 [ints [], .int .i64 (-1)]])] (f3 hh (decide_eq_true c21) (f3 (decide_eq_true c22) (decide_eq_false c23) c5)) ?_ ?_
   ·exact ⟨Call0.call (Pure.clr hx.san (by first | rfl | simp only [c5])), trivial⟩
   clear hh h
   intro h hh
   cases H
   exact rt hh
  rcases isb H with ⟨c24, H⟩ | ⟨c24, H⟩
  rotate_left
  ·skip
   repeat apply TW.seq
   refine rkc [10] [] [(.bool true, stL [.cells true 3 [lNodes n.nodes, lLinks n.links, lEdges n.edges], .cells true 2 [ints f_.links, .int .i64 f_.node], .cells true 3 [lNodes n.nodes, lLinks (s_3.1.set link.toNat ({ s_3.1.getD link.toNat default with cap := IntKind.i64.wrap (((s_3.1.getD link.toNat default).cap) + 1) })), lEdges n.edges], .gone, .cells true 2 [ints [], .int .i64 (-1)]])] (f3 hh (decide_eq_true c21) (f3 (decide_eq_true c22) (decide_eq_true c23) (f2 c24 c5))) ?_ ?_
   ·exact ⟨Call0.call (Pure.clr hx.san (by first | rfl | simp only [c5, c24])), trivial⟩
   clear hh h
   intro h hh
   cases H
   exact rt hh
  rcases isb H with ⟨c25, H⟩ | ⟨c25, H⟩
  rotate_left
  ·skip
   repeat apply TW.seq
   refine rkc [10] [] [(.bool true, stL [.cells true 3 [lNodes n.nodes, lLinks n.links, lEdges n.edges], .cells true 2 [ints f_.links, .int .i64 f_.node], .cells true 3 [lNodes n.nodes, lLinks (s_3.1.set link.toNat ({ s_3.1.getD link.toNat default with cap := IntKind.i64.wrap (((s_3.1.getD link.toNat default).cap) + 1) })), lEdges n.edges], .gone, .cells true 2 [ints [], .int .i64 (-1)]])] (f3 hh (decide_eq_true c21) (f3 (decide_eq_true c22) (decide_eq_true c23) (f3 c24 c25 c5))) ?_ ?_
   ·exact ⟨Call0.call (Pure.clr hx.san (by first | rfl | simp only [c5, c24, c25])), trivial⟩
   clear hh h
   intro h hh
   cases H
   exact rt hh
  rcases isb H with ⟨c26, H⟩ | ⟨c26, H⟩
  rotate_left
  ·skip
   repeat apply TW.seq
   refine rkc [10] [] [(.bool true, stL [.cells true 3 [lNodes n.nodes, lLinks n.links, lEdges n.edges], .cells true 2 [ints f_.links, .int .i64 f_.node], .cells true 3 [lNodes n.nodes, lLinks (s_3.1.set link.toNat ({ s_3.1.getD link.toNat default with cap := IntKind.i64.wrap (((s_3.1.getD link.toNat default).cap) + 1) })), lEdges n.edges], .gone, .cells true 2 [ints [], .int .i64 (-1)]])] (f3 hh (decide_eq_true c21) (f3 (decide_eq_true c22) (decide_eq_true c23) (f3 c24 c25 (f2 c26 c5)))) ?_ ?_
   ·exact ⟨Call0.call (Pure.clr hx.san (by first | rfl | simp only [c5, c24, c25, c26])), trivial⟩
   clear hh h
   intro h hh
   cases H
   exact rt hh
  rcases isp H with ⟨c27, H⟩ | ⟨c27, H⟩
  rotate_left
  ·skip
   rcases isp H with ⟨c28, H⟩ | ⟨c28, H⟩
   rotate_left
   ·skip
    repeat apply TW.seq
    refine rkc [10] [] [(.bool true, stL [.cells true 3 [lNodes n.nodes, lLinks n.links, lEdges n.edges], .cells true 2 [ints f_.links, .int .i64 f_.node], .cells true 3 [lNodes n.nodes, lLinks (s_3.1.set link.toNat ({ s_3.1.getD link.toNat default with cap := IntKind.i64.wrap (((s_3.1.getD link.toNat default).cap) + 1) })), lEdges n.edges], .gone, .cells true 2 [ints [], .int .i64 (-1)]])] (f3 hh (decide_eq_true c21) (f3 (decide_eq_true c22) (decide_eq_true c23) (f3 c24 c25 (f3 c26 (decide_eq_false c27) (f2 (decide_eq_false c28) c5))))) ?_ ?_
    ·exact ⟨Call0.call (Pure.clr hx.san (by first | rfl | simp only [c5, c24, c25, c26])), trivial⟩
    clear hh h
    intro h hh
    cases H
    exact rt hh
   repeat apply TW.seq
   refine rkc [10] [] [(.bool true, stL [.cells true 3 [lNodes n.nodes, lLinks n.links, lEdges n.edges], .cells true 2 [ints f_.links, .int .i64 f_.node], .cells true 3 [lNodes n.nodes, lLinks (s_3.1.set link.toNat ({ s_3.1.getD link.toNat default with cap := IntKind.i64.wrap (((s_3.1.getD link.toNat default).cap) + 1) })), lEdges n.edges], .gone, .cells true 2 [ints [], .int .i64 (-1)]])] (f3 hh (decide_eq_true c21) (f3 (decide_eq_true c22) (decide_eq_true c23) (f3 c24 c25 (f3 c26 (decide_eq_false c27) (f2 (decide_eq_true c28) c5))))) ?_ ?_
   ·exact ⟨Call0.call (Pure.clr hx.san (by first | rfl | simp only [c5, c24, c25, c26])), trivial⟩
   clear hh h
   intro h hh
   cases H
   exact rt hh
  repeat apply TW.seq
  refine rkc [10] [] [(.bool true, stL [.cells true 3 [lNodes n.nodes, lLinks n.links, lEdges n.edges], .cells true 2 [ints f_.links, .int .i64 f_.node], .cells true 3 [lNodes n.nodes, lLinks (s_3.1.set link.toNat ({ s_3.1.getD link.toNat default with cap := IntKind.i64.wrap (((s_3.1.getD link.toNat default).cap) + 1) })), lEdges n.edges], .gone, .cells true 2 [ints [], .int .i64 (-1)]])] (f3 hh (decide_eq_true c21) (f3 (decide_eq_true c22) (decide_eq_true c23) (f3 c24 c25 (f3 c26 (decide_eq_true c27) c5)))) ?_ ?_
  ·exact ⟨Call0.call (Pure.clr hx.san (by first | rfl | simp only [c5, c24, c25, c26])), trivial⟩
  clear hh h
  intro h hh
  cases H
  exact rt hh
 repeat apply TW.seq
 refine ct (f2 hh c5) ?_
 repeat apply TW.seq
 refine rkc [10] [] [(.bool true, stL [.cells true 3 [lNodes n.nodes, lLinks n.links, lEdges n.edges], .cells true 2 [ints f_.links, .int .i64 f_.node]])] (f2 hh c5) ?_ ?_
 ·exact ⟨Call0.call (Pure.clr hx.san (by first | rfl | simp only [c5])), trivial⟩
 clear hh h
 intro h hh
 cases H
 exact rt hh
end Go.Proofs.Ytfalnphlgfoflaa