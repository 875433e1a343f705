/- Functions as plain functions, and that the code computes them. -/
import Derived.Test.YtfalnphlgfoflaaSA
namespace Go.Proofs.Ytfalnphlgfoflaa
open Go Go.RowKit
set_option linter.unusedSimpArgs false
set_option linter.unusedVariables false
set_option linter.unusedSectionVars false
set_option maxRecDepth 100000
def sr22_isNode (k : Nat) (n : Net) (k_ : Int) : Option Bool := (if 0 ≤ k_ then some (decide (k_ < (n.nodes.length : Int))) else some false)
set_option maxHeartbeats 8000000 in
theorem sr22_isNode_ok (ax : Axs) (hx : Plain ax) (k : Nat) (n : Net) (k_ : Int) (v : Bool) (H : sr22_isNode k n k_ = some v) : Pure Try.prog (EE ax) [] 43 [eNet n, .int .i64 k_] (.bool v) := by
 rw [sr22_isNode] at H
 refine en [.tmp 4] 14 [0, 1] (hx.no _ (by decide)) (fn43 ax) ?_
 intro h hh
 repeat apply TW.seq
 refine rk [1, 2] [] hh ?_
 clear hh h
 intro h hh
 rcases isp H with ⟨c1, H⟩ | ⟨c1, H⟩
 rotate_left
 ·skip
  repeat apply TW.seq
  refine rk [4] [] (f2 hh (decide_eq_false c1)) ?_
  clear hh h
  intro h hh
  cases H
  exact rt hh
 repeat apply TW.seq
 refine rk [4] [] (f2 hh (decide_eq_true c1)) ?_
 clear hh h
 intro h hh
 cases H
 exact rt hh
def sr09_Up_L0 (k : Nat) (f_ : Failure) (link : Int) : Nat → Int → Option (Bool ⊕ Unit)
 | 0, _ => none
 | m + 1, i => (if i < (f_.links.length : Int) then (if (0 : Int) ≤ i ∧ i < (f_.links.length : Int) then (if (gx f_.links i) = link then some (.inl false) else sr09_Up_L0 k f_ link m (IntKind.i64.wrap (i + 1))) else none) else some (.inr ()))
def sr09_Up (k : Nat) (n : Net) (f_ : Failure) (link : Int) : Option Bool := ((sr09_Up_L0 k f_ link k 0 : Option (Bool ⊕ Unit)).bind fun o => Sum.elim (fun r => some r) (fun s_ => (if (0 : Int) ≤ link ∧ link < (n.links.length : Int) then (if ((gx n.links link).frm) ≠ f_.node then some (decide (((gx n.links link).to) ≠ f_.node)) else some false) else none)) o)
set_option maxHeartbeats 8000000 in
theorem sr09_Up_ok (ax : Axs) (hx : Plain ax) (k : Nat) (n : Net) (f_ : Failure) (link : Int) (v : Bool) (H : sr09_Up k n f_ link = some v) : Pure Try.prog (EE ax) [] 38 [eNet n, eFail f_, .int .i64 link] (.bool v) := by
 rw [sr09_Up] at H
 refine en [.tmp 6] 42 [0, 1, 2] (hx.no _ (by decide)) (fn38 ax) ?_
 intro h hh
 repeat apply TW.seq
 refine rk [2, 3, 4] [] hh ?_
 clear hh h
 intro h hh
 repeat apply TW.seq
 refine rk [2, 3, 4, 7] [] hh ?_
 clear hh h
 intro h hh
 obtain ⟨o, H1, H⟩ := bsome H
 repeat apply TW.seq
 refine cu [2, 3, 4] 2 (fun h bs => ∃ s_ : Unit, o = .inr s_ ∧ (h 2 = .int .i64 link ∧ h 3 = .ptr 0 0 3 ∧ h 4 = .ptr 1 0 2) ∧ bs = [.cells true 3 [lNodes n.nodes, lLinks n.links, lEdges n.edges], .cells true 2 [ints f_.links, .int .i64 f_.node]]) ?_ ?_
 ·skip
  repeat apply TW.seq
  apply TW.block
  repeat apply TW.seq
  refine TW.loopT [2, 3, 4, 7] (fun m h bs => ∃ (i : Int), sr09_Up_L0 k f_ link m i = some o ∧ (h 2 = .int .i64 link ∧ h 3 = .ptr 0 0 3 ∧ h 4 = .ptr 1 0 2 ∧ h 7 = .int .i64 i) ∧ bs = [.cells true 3 [lNodes n.nodes, lLinks n.links, lEdges n.edges], .cells true 2 [ints f_.links, .int .i64 f_.node]]) ?_ k _ _ ?_
  rotate_left
  ·exact ⟨0, H1, kq hh, rfl⟩
  clear hh h H1
  rintro m h bs ⟨i, H1, hh, rfl⟩
  rcases m with _ | m
  ·rw [sr09_Up_L0] at H1; cases H1
  rw [sr09_Up_L0] at H1
  repeat apply TW.seq
  refine rk [2, 3, 4, 7, 12] [] hh ?_
  clear hh h
  intro h hh
  rcases isp H1 with ⟨c1, H1⟩ | ⟨c1, H1⟩
  rotate_left
  ·skip
   repeat apply TW.seq
   refine cf (f2 hh (decide_eq_false c1)) ?_
   refine xk ?_
   cases H1
   exact ce hh ⟨_, rfl, kq hh, rfl⟩
  repeat apply TW.seq
  refine ct (f2 hh (decide_eq_true c1)) ?_
  repeat apply TW.seq
  refine sk ?_
  repeat apply TW.seq
  apply TW.block
  obtain ⟨g2, H1⟩ := isg H1
  repeat apply TW.seq
  refine rk [2, 3, 4, 7, 21] [] (f2 hh (gx_some g2)) ?_
  clear hh h
  intro h hh
  rcases isp H1 with ⟨c3, H1⟩ | ⟨c3, H1⟩
  rotate_left
  ·skip
   repeat apply TW.seq
   refine cf (f2 hh (decide_eq_false c3)) ?_
   repeat apply TW.seq
   refine sk ?_
   repeat apply TW.seq
   refine rk [2, 3, 4, 7] [] hh ?_
   clear hh h
   intro h hh
   exact rd m hh ⟨(IntKind.i64.wrap (i + 1)), H1, kq hh, rfl⟩
  repeat apply TW.seq
  refine ct (f2 hh (decide_eq_true c3)) ?_
  repeat apply TW.seq
  refine rk [6] [] hh ?_
  clear hh h
  intro h hh
  cases H1
  obtain rfl := sinl H
  exact rt hh
 clear hh h
 rintro h bs ⟨s_, rfl, hh, rfl⟩
 replace H := sinr H
 obtain ⟨g4, H⟩ := isg H
 rcases isp H with ⟨c5, H⟩ | ⟨c5, H⟩
 rotate_left
 ·skip
  repeat apply TW.seq
  refine dk 18 [6] [] [] [] (f3 hh (decide_eq_false c5) (gx_some g4)) trivial trivial ?_
  clear hh h
  intro h hh
  cases H
  exact rt hh
 repeat apply TW.seq
 refine dk 18 [6] [] [] [] (f3 hh (decide_eq_true c5) (gx_some g4)) trivial trivial ?_
 clear hh h
 intro h hh
 cases H
 exact rt hh
def sr22_has_L0 (k : Nat) (l : List Int) (n : Int) : Nat → Int → Option (Bool ⊕ Unit)
 | 0, _ => none
 | m + 1, k_ => (if k_ < (l.length : Int) then (if (0 : Int) ≤ k_ ∧ k_ < (l.length : Int) then (if (gx l k_) = n then some (.inl true) else sr22_has_L0 k l n m (IntKind.i64.wrap (k_ + 1))) else none) else some (.inr ()))
def sr22_has (k : Nat) (l : List Int) (n : Int) : Option Bool := ((sr22_has_L0 k l n k 0 : Option (Bool ⊕ Unit)).bind fun o => Sum.elim (fun r => some r) (fun s_ => some false) o)
set_option maxHeartbeats 8000000 in
theorem sr22_has_ok (ax : Axs) (hx : Plain ax) (k : Nat) (l : List Int) (n : Int) (v : Bool) (H : sr22_has k l n = some v) : Pure Try.prog (EE ax) [] 41 [ints l, .int .i64 n] (.bool v) := by
 rw [sr22_has] at H
 refine en [.tmp 4] 18 [0, 1] (hx.no _ (by decide)) (fn41 ax) ?_
 intro h hh
 repeat apply TW.seq
 refine rk [0, 1] [] hh ?_
 clear hh h
 intro h hh
 repeat apply TW.seq
 refine rk [0, 1, 5] [] hh ?_
 clear hh h
 intro h hh
 obtain ⟨o, H1, H⟩ := bsome H
 repeat apply TW.seq
 refine cu [] 0 (fun h bs => ∃ s_ : Unit, o = .inr s_ ∧ (True) ∧ bs = []) ?_ ?_
 ·skip
  repeat apply TW.seq
  apply TW.block
  repeat apply TW.seq
  refine TW.loopT [0, 1, 5] (fun m h bs => ∃ (k_ : Int), sr22_has_L0 k l n m k_ = some o ∧ (h 0 = ints l ∧ h 1 = .int .i64 n ∧ h 5 = .int .i64 k_) ∧ bs = []) ?_ k _ _ ?_
  rotate_left
  ·exact ⟨0, H1, kq hh, rfl⟩
  clear hh h H1
  rintro m h bs ⟨k_, H1, hh, rfl⟩
  rcases m with _ | m
  ·rw [sr22_has_L0] at H1; cases H1
  rw [sr22_has_L0] at H1
  repeat apply TW.seq
  refine rk [0, 1, 5, 9] [] hh ?_
  clear hh h
  intro h hh
  rcases isp H1 with ⟨c1, H1⟩ | ⟨c1, H1⟩
  rotate_left
  ·skip
   repeat apply TW.seq
   refine cf (f2 hh (decide_eq_false c1)) ?_
   refine xk ?_
   cases H1
   exact ce hh ⟨_, rfl, kq hh, rfl⟩
  repeat apply TW.seq
  refine ct (f2 hh (decide_eq_true c1)) ?_
  repeat apply TW.seq
  refine sk ?_
  repeat apply TW.seq
  apply TW.block
  obtain ⟨g2, H1⟩ := isg H1
  repeat apply TW.seq
  refine rk [0, 1, 5, 17] [] (f2 hh (gx_some g2)) ?_
  clear hh h
  intro h hh
  rcases isp H1 with ⟨c3, H1⟩ | ⟨c3, H1⟩
  rotate_left
  ·skip
   repeat apply TW.seq
   refine cf (f2 hh (decide_eq_false c3)) ?_
   repeat apply TW.seq
   refine sk ?_
   repeat apply TW.seq
   refine rk [0, 1, 5] [] hh ?_
   clear hh h
   intro h hh
   exact rd m hh ⟨(IntKind.i64.wrap (k_ + 1)), H1, kq hh, rfl⟩
  repeat apply TW.seq
  refine ct (f2 hh (decide_eq_true c3)) ?_
  repeat apply TW.seq
  refine rk [4] [] hh ?_
  clear hh h
  intro h hh
  cases H1
  obtain rfl := sinl H
  exact rt hh
 clear hh h
 rintro h bs ⟨s_, rfl, hh, rfl⟩
 replace H := sinr H
 repeat apply TW.seq
 refine rk [4] [] hh ?_
 clear hh h
 intro h hh
 cases H
 exact rt hh
def sr22_IsCut_L0 (k : Nat) (n : Net) (cut : List Int) : Nat → Int → Option (Bool ⊕ Unit)
 | 0, _ => none
 | m + 1, k_ => (if k_ < (cut.length : Int) then (if (0 : Int) ≤ k_ ∧ k_ < (cut.length : Int) then ((sr22_isNode k n (gx cut k_)).bind fun risNode => (if risNode = true then (if 0 < k_ then (if (0 : Int) ≤ (IntKind.i64.wrap (k_ - 1)) ∧ (IntKind.i64.wrap (k_ - 1)) < (cut.length : Int) then (if (gx cut k_) ≤ (gx cut (IntKind.i64.wrap (k_ - 1))) then some (.inl false) else sr22_IsCut_L0 k n cut m (IntKind.i64.wrap (k_ + 1))) else none) else sr22_IsCut_L0 k n cut m (IntKind.i64.wrap (k_ + 1))) else some (.inl false))) else none) else some (.inr ()))
def sr22_IsCut (k : Nat) (n : Net) (cut : List Int) : Option Bool := ((sr22_IsCut_L0 k n cut k 0 : Option (Bool ⊕ Unit)).bind fun o => Sum.elim (fun r => some r) (fun s_ => some true) o)
set_option maxHeartbeats 8000000 in
theorem sr22_IsCut_ok (ax : Axs) (hx : Plain ax) (k : Nat) (n : Net) (cut : List Int) (v : Bool) (H : sr22_IsCut k n cut = some v) : Pure Try.prog (EE ax) [] 17 [eNet n, ints cut] (.bool v) := by
 rw [sr22_IsCut] at H
 refine en [.tmp 4] 37 [0, 1] (hx.no _ (by decide)) (fn17 ax) ?_
 intro h hh
 repeat apply TW.seq
 refine rk [1, 2] [] hh ?_
 clear hh h
 intro h hh
 repeat apply TW.seq
 refine rk [1, 2, 5] [] hh ?_
 clear hh h
 intro h hh
 obtain ⟨o, H1, H⟩ := bsome H
 repeat apply TW.seq
 refine cu [] 1 (fun h bs => ∃ s_ : Unit, o = .inr s_ ∧ (True) ∧ bs = [.cells true 3 [lNodes n.nodes, lLinks n.links, lEdges n.edges]]) ?_ ?_
 ·skip
  repeat apply TW.seq
  apply TW.block
  repeat apply TW.seq
  refine TW.loopT [1, 2, 5] (fun m h bs => ∃ (k_ : Int), sr22_IsCut_L0 k n cut m k_ = some o ∧ (h 1 = ints cut ∧ h 2 = .ptr 0 0 3 ∧ h 5 = .int .i64 k_) ∧ bs = [.cells true 3 [lNodes n.nodes, lLinks n.links, lEdges n.edges]]) ?_ k _ _ ?_
  rotate_left
  ·exact ⟨0, H1, kq hh, rfl⟩
  clear hh h H1
  rintro m h bs ⟨k_, H1, hh, rfl⟩
  rcases m with _ | m
  ·rw [sr22_IsCut_L0] at H1; cases H1
  rw [sr22_IsCut_L0] at H1
  repeat apply TW.seq
  refine rk [1, 2, 5, 10] [] hh ?_
  clear hh h
  intro h hh
  rcases isp H1 with ⟨c1, H1⟩ | ⟨c1, H1⟩
  rotate_left
  ·skip
   repeat apply TW.seq
   refine cf (f2 hh (decide_eq_false c1)) ?_
   refine xk ?_
   cases H1
   exact ce hh ⟨_, rfl, kq hh, rfl⟩
  repeat apply TW.seq
  refine ct (f2 hh (decide_eq_true c1)) ?_
  repeat apply TW.seq
  refine sk ?_
  repeat apply TW.seq
  apply TW.block
  obtain ⟨g2, H1⟩ := isg H1
  obtain ⟨risNode, e3, H1⟩ := bsome H1
  repeat apply TW.seq
  refine dk 5 [1, 2, 5, 6] [] [] [(.bool risNode, stL [.cells true 3 [lNodes n.nodes, lLinks n.links, lEdges n.edges]])] (f2 hh (gx_some g2)) trivial ?_ ?_
  ·exact ⟨Call0.call ((sr22_isNode_ok ax hx k n (gx cut k_) risNode e3 ).call _), trivial⟩
  clear hh h
  intro h hh
  rcases isb H1 with ⟨c4, H1⟩ | ⟨c4, H1⟩
  rotate_left
  ·skip
   repeat apply TW.seq
   refine dk 15 [1, 2, 5, 36] [] [] [] (f2 hh c4) trivial trivial ?_
   clear hh h
   intro h hh
   repeat apply TW.seq
   refine ct hh ?_
   repeat apply TW.seq
   refine rk [4] [] (f2 hh c4) ?_
   clear hh h
   intro h hh
   cases H1
   obtain rfl := sinl H
   exact rt hh
  rcases isp H1 with ⟨c5, H1⟩ | ⟨c5, H1⟩
  rotate_left
  ·skip
   repeat apply TW.seq
   refine dk 15 [1, 2, 5, 36] [] [] [] (f3 hh c4 (decide_eq_false c5)) trivial trivial ?_
   clear hh h
   intro h hh
   repeat apply TW.seq
   refine cf hh ?_
   repeat apply TW.seq
   refine sk ?_
   repeat apply TW.seq
   refine rk [1, 2, 5] [] (f2 hh c4) ?_
   clear hh h
   intro h hh
   exact rd m hh ⟨(IntKind.i64.wrap (k_ + 1)), H1, kq hh, rfl⟩
  obtain ⟨g6, H1⟩ := isg H1
  repeat apply TW.seq
  refine dk 15 [1, 2, 5, 36] [] [] [] (f3 hh c4 (f3 (decide_eq_true c5) (gx_some g6) (gx_some g2))) trivial trivial ?_
  clear hh h
  intro h hh
  rcases isp H1 with ⟨c7, H1⟩ | ⟨c7, H1⟩
  rotate_left
  ·skip
   repeat apply TW.seq
   refine cf (f2 hh (decide_eq_false c7)) ?_
   repeat apply TW.seq
   refine sk ?_
   repeat apply TW.seq
   refine rk [1, 2, 5] [] (f2 hh c4) ?_
   clear hh h
   intro h hh
   exact rd m hh ⟨(IntKind.i64.wrap (k_ + 1)), H1, kq hh, rfl⟩
  repeat apply TW.seq
  refine ct (f2 hh (decide_eq_true c7)) ?_
  repeat apply TW.seq
  refine rk [4] [] (f2 hh c4) ?_
  clear hh h
  intro h hh
  cases H1
  obtain rfl := sinl H
  exact rt hh
 clear hh h
 rintro h bs ⟨s_, rfl, hh, rfl⟩
 replace H := sinr H
 repeat apply TW.seq
 refine rk [4] [] hh ?_
 clear hh h
 intro h hh
 cases H
 exact rt hh
def sr22_Capacity_L0 (k : Nat) (n : Net) (f_ : Failure) (cut : List Int) : Nat → Int → Int → Option Int
 | 0, _, _ => none
 | m + 1, sum, k_ => (if k_ < (n.links.length : Int) then ((sr09_Up k n f_ k_).bind fun rUp => (if (0 : Int) ≤ k_ ∧ k_ < (n.links.length : Int) then ((sr22_has k cut ((gx n.links k_).frm)).bind fun rhas => ((sr22_has k cut ((gx n.links k_).to)).bind fun rhas2 => (if rUp = true then (if rhas = true then (if rhas2 = true then sr22_Capacity_L0 k n f_ cut m sum (IntKind.i64.wrap (k_ + 1)) else sr22_Capacity_L0 k n f_ cut m (IntKind.i64.wrap (sum + ((gx n.links k_).cap))) (IntKind.i64.wrap (k_ + 1))) else sr22_Capacity_L0 k n f_ cut m sum (IntKind.i64.wrap (k_ + 1))) else sr22_Capacity_L0 k n f_ cut m sum (IntKind.i64.wrap (k_ + 1))))) else none)) else some sum)
def sr22_Capacity (k : Nat) (n : Net) (f_ : Failure) (cut : List Int) : Option Int := ((sr22_Capacity_L0 k n f_ cut k 0 0 : Option Int).bind fun s_ => some s_)
set_option maxHeartbeats 8000000 in
theorem sr22_Capacity_ok (ax : Axs) (hx : Plain ax) (k : Nat) (n : Net) (f_ : Failure) (cut : List Int) (v : Int) (H : sr22_Capacity k n f_ cut = some v) : Pure Try.prog (EE ax) [] 19 [eNet n, eFail f_, ints cut] (.int .i64 v) := by
 rw [sr22_Capacity] at H
 refine en [.tmp 6] 56 [0, 1, 2] (hx.no _ (by decide)) (fn19 ax) ?_
 intro h hh
 repeat apply TW.seq
 refine rk [2, 3, 4] [] hh ?_
 clear hh h
 intro h hh
 repeat apply TW.seq
 refine rk [2, 3, 4, 7] [] hh ?_
 clear hh h
 intro h hh
 repeat apply TW.seq
 refine rk [2, 3, 4, 7, 8] [] hh ?_
 clear hh h
 intro h hh
 obtain ⟨s_, H1, H⟩ := bsome H
 repeat apply TW.seq
 refine cu [7] 2 (fun h bs => (h 7 = .int .i64 s_) ∧ bs = [.cells true 3 [lNodes n.nodes, lLinks n.links, lEdges n.edges], .cells true 2 [ints f_.links, .int .i64 f_.node]]) ?_ ?_
 ·skip
  repeat apply TW.seq
  apply TW.block
  repeat apply TW.seq
  refine TW.loopT [2, 3, 4, 7, 8] (fun m h bs => ∃ (sum : Int) (k_ : Int), sr22_Capacity_L0 k n f_ cut m sum k_ = some s_ ∧ (h 2 = ints cut ∧ h 3 = .ptr 0 0 3 ∧ h 4 = .ptr 1 0 2 ∧ h 7 = .int .i64 sum ∧ h 8 = .int .i64 k_) ∧ bs = [.cells true 3 [lNodes n.nodes, lLinks n.links, lEdges n.edges], .cells true 2 [ints f_.links, .int .i64 f_.node]]) ?_ k _ _ ?_
  rotate_left
  ·exact ⟨0, 0, H1, kq hh, rfl⟩
  clear hh h H1
  rintro m h bs ⟨sum, k_, H1, hh, rfl⟩
  rcases m with _ | m
  ·rw [sr22_Capacity_L0] at H1; cases H1
  rw [sr22_Capacity_L0] at H1
  repeat apply TW.seq
  refine rk [2, 3, 4, 7, 8, 16] [] hh ?_
  clear hh h
  intro h hh
  rcases isp H1 with ⟨c1, H1⟩ | ⟨c1, H1⟩
  rotate_left
  ·skip
   repeat apply TW.seq
   refine cf (f2 hh (decide_eq_false c1)) ?_
   refine xk ?_
   cases H1
   exact ce hh ⟨kq hh, rfl⟩
  repeat apply TW.seq
  refine ct (f2 hh (decide_eq_true c1)) ?_
  repeat apply TW.seq
  refine sk ?_
  repeat apply TW.seq
  apply TW.block
  obtain ⟨rUp, e2, H1⟩ := bsome H1
  repeat apply TW.seq
  refine rkc [2, 3, 4, 7, 8, 9] [] [(.bool rUp, stL [.cells true 3 [lNodes n.nodes, lLinks n.links, lEdges n.edges], .cells true 2 [ints f_.links, .int .i64 f_.node]])] hh ?_ ?_
  ·exact ⟨Call0.call ((sr09_Up_ok ax hx k n f_ k_ rUp e2 ).call _), trivial⟩
  clear hh h
  intro h hh
  obtain ⟨g3, H1⟩ := isg H1
  obtain ⟨rhas, e4, H1⟩ := bsome H1
  repeat apply TW.seq
  refine rkc [2, 3, 4, 7, 8, 9, 10] [] [(.bool rhas, stL [.cells true 3 [lNodes n.nodes, lLinks n.links, lEdges n.edges], .cells true 2 [ints f_.links, .int .i64 f_.node]])] (f2 hh (gx_some g3)) ?_ ?_
  ·exact ⟨Call0.call ((sr22_has_ok ax hx k cut ((gx n.links k_).frm) rhas e4 ).call _), trivial⟩
  clear hh h
  intro h hh
  obtain ⟨rhas2, e5, H1⟩ := bsome H1
  repeat apply TW.seq
  refine rkc [2, 3, 4, 7, 8, 9, 10, 11] [] [(.bool rhas2, stL [.cells true 3 [lNodes n.nodes, lLinks n.links, lEdges n.edges], .cells true 2 [ints f_.links, .int .i64 f_.node]])] (f2 hh (gx_some g3)) ?_ ?_
  ·exact ⟨Call0.call ((sr22_has_ok ax hx k cut ((gx n.links k_).to) rhas2 e5 ).call _), trivial⟩
  clear hh h
  intro h hh
  rcases isb H1 with ⟨c6, H1⟩ | ⟨c6, H1⟩
  rotate_left
  ·skip
   repeat apply TW.seq
   refine rk [2, 3, 4, 7, 8, 46] [] (f2 hh c6) ?_
   clear hh h
   intro h hh
   repeat apply TW.seq
   refine cf hh ?_
   repeat apply TW.seq
   refine sk ?_
   repeat apply TW.seq
   refine rk [2, 3, 4, 7, 8] [] (f2 hh c6) ?_
   clear hh h
   intro h hh
   exact rd m hh ⟨sum, (IntKind.i64.wrap (k_ + 1)), H1, kq hh, rfl⟩
  rcases isb H1 with ⟨c7, H1⟩ | ⟨c7, H1⟩
  rotate_left
  ·skip
   repeat apply TW.seq
   refine rk [2, 3, 4, 7, 8, 46] [] (f3 hh c6 c7) ?_
   clear hh h
   intro h hh
   repeat apply TW.seq
   refine cf hh ?_
   repeat apply TW.seq
   refine sk ?_
   repeat apply TW.seq
   refine rk [2, 3, 4, 7, 8] [] (f3 hh c6 c7) ?_
   clear hh h
   intro h hh
   exact rd m hh ⟨sum, (IntKind.i64.wrap (k_ + 1)), H1, kq hh, rfl⟩
  repeat apply TW.seq
  refine rk [2, 3, 4, 7, 8, 46] [] (f3 hh c6 c7) ?_
  clear hh h
  intro h hh
  rcases isb H1 with ⟨c8, H1⟩ | ⟨c8, H1⟩
  rotate_left
  ·skip
   repeat apply TW.seq
   refine ct (f2 hh c8) ?_
   repeat apply TW.seq
   refine rk [2, 3, 4, 7, 8] [] (f3 hh c6 (f3 c7 c8 (gx_some g3))) ?_
   clear hh h
   intro h hh
   repeat apply TW.seq
   refine rk [2, 3, 4, 7, 8] [] (f3 hh c6 (f2 c7 c8)) ?_
   clear hh h
   intro h hh
   exact rd m hh ⟨(IntKind.i64.wrap (sum + ((gx n.links k_).cap))), (IntKind.i64.wrap (k_ + 1)), H1, kq hh, rfl⟩
  repeat apply TW.seq
  refine cf (f2 hh c8) ?_
  repeat apply TW.seq
  refine sk ?_
  repeat apply TW.seq
  refine rk [2, 3, 4, 7, 8] [] (f3 hh c6 (f2 c7 c8)) ?_
  clear hh h
  intro h hh
  exact rd m hh ⟨sum, (IntKind.i64.wrap (k_ + 1)), H1, kq hh, rfl⟩
 clear hh h
 rintro h bs ⟨hh, rfl⟩
 repeat apply TW.seq
 refine rk [6] [] hh ?_
 clear hh h
 intro h hh
 cases H
 exact rt hh
def sr22_Check_L0 (k : Nat) (n : Net) (f_ : Failure) (flow : List Int) : Nat → Int → (List Int) → Option ((Int × Bool) ⊕ (List Int))
 | 0, _, _ => none
 | m + 1, k_, l => (if k_ < (flow.length : Int) then (if (0 : Int) ≤ k_ ∧ k_ < (n.links.length : Int) then ((sr09_Up k n f_ k_).bind fun rUp => (((if (0 : Int) ≤ k_ ∧ k_ < (flow.length : Int) then (if (gx flow k_) < 0 then some true else (if ((gx n.links k_).cap) < (gx flow k_) then some true else (if rUp = true then some false else some (decide (0 < (gx flow k_)))))) else none) : Option Bool).bind fun s_3 => (if s_3 = true then some (.inl (0, false)) else (if (0 : Int) ≤ ((gx n.links k_).frm) ∧ ((gx n.links k_).frm) < (((n.nodes.length : Int).toNat) : Int) then (if ((gx n.links k_).frm).toNat < l.length then (if (0 : Int) ≤ k_ ∧ k_ < (flow.length : Int) then (if (0 : Int) ≤ ((gx n.links k_).to) ∧ ((gx n.links k_).to) < (((n.nodes.length : Int).toNat) : Int) then (if ((gx n.links k_).to).toNat < (l.set ((gx n.links k_).frm).toNat (IntKind.i64.wrap ((l.getD ((gx n.links k_).frm).toNat default) + (gx flow k_)))).length then sr22_Check_L0 k n f_ flow m (IntKind.i64.wrap (k_ + 1)) ((l.set ((gx n.links k_).frm).toNat (IntKind.i64.wrap ((l.getD ((gx n.links k_).frm).toNat default) + (gx flow k_)))).set ((gx n.links k_).to).toNat (IntKind.i64.wrap (((l.set ((gx n.links k_).frm).toNat (IntKind.i64.wrap ((l.getD ((gx n.links k_).frm).toNat default) + (gx flow k_)))).getD ((gx n.links k_).to).toNat default) - (gx flow k_)))) else none) else none) else none) else none) else none)))) else none) else some (.inr l))
def sr22_Check_L1 (k : Nat) (n : Net) (from_ : Int) (to_ : Int) (s_2 : List Int) : Nat → Int → Option ((Int × Bool) ⊕ Unit)
 | 0, _ => none
 | m + 1, k_2 => (if k_2 < (((n.nodes.length : Int).toNat) : Int) then (if k_2 ≠ from_ then (if k_2 ≠ to_ then (if (0 : Int) ≤ k_2 ∧ k_2 < (((n.nodes.length : Int).toNat) : Int) then (if k_2.toNat < s_2.length then (if (s_2.getD k_2.toNat default) ≠ 0 then some (.inl (0, false)) else sr22_Check_L1 k n from_ to_ s_2 m (IntKind.i64.wrap (k_2 + 1))) else none) else none) else sr22_Check_L1 k n from_ to_ s_2 m (IntKind.i64.wrap (k_2 + 1))) else sr22_Check_L1 k n from_ to_ s_2 m (IntKind.i64.wrap (k_2 + 1))) else some (.inr ()))
def sr22_Check (k : Nat) (n : Net) (f_ : Failure) (from_ : Int) (to_ : Int) (flow : List Int) : Option (Int × Bool) := (((if from_ = to_ then some true else some (decide ((flow.length : Int) ≠ (n.links.length : Int)))) : Option Bool).bind fun s_ => (if s_ = true then some (0, false) else (if (0 : Int) ≤ (n.nodes.length : Int) ∧ (n.nodes.length : Int).toNat * 9 ≤ 1000000000 then ((sr22_Check_L0 k n f_ flow k 0 (List.replicate (n.nodes.length : Int).toNat 0) : Option ((Int × Bool) ⊕ (List Int))).bind fun o2 => Sum.elim (fun r => some r) (fun s_2 => ((sr22_Check_L1 k n from_ to_ s_2 k 0 : Option ((Int × Bool) ⊕ Unit)).bind fun o => Sum.elim (fun r => some r) (fun s_4 => (if (0 : Int) ≤ from_ ∧ from_ < (((n.nodes.length : Int).toNat) : Int) then (if from_.toNat < s_2.length then (if (s_2.getD from_.toNat default) < 0 then some (0, false) else some (s_2.getD from_.toNat default, true)) else none) else none)) o)) o2) else none)))
set_option maxHeartbeats 8000000 in
theorem sr22_Check_ok (ax : Axs) (hx : Plain ax) (k : Nat) (n : Net) (f_ : Failure) (from_ : Int) (to_ : Int) (flow : List Int) (v : Int × Bool) (H : sr22_Check k n f_ from_ to_ flow = some v) : Pure Try.prog (EE ax) [] 12 [eNet n, eFail f_, .int .i64 from_, .int .i64 to_, ints flow] (tupT [.int .i64 v.1, .bool v.2]) := by
 rw [sr22_Check] at H
 refine enN [.tmp 10, .tmp 11] 130 [0, 1, 2, 3, 4] (hx.no _ (by decide)) (fn12 ax) ?_
 intro h hh
 repeat apply TW.seq
 refine rk [2, 3, 4, 5, 6] [] hh ?_
 clear hh h
 intro h hh
 obtain ⟨s_, H1, H⟩ := bsome H
 repeat apply TW.seq
 refine cu [2, 3, 4, 5, 6, 27] 2 (fun h bs => (h 2 = .int .i64 from_ ∧ h 3 = .int .i64 to_ ∧ h 4 = ints flow ∧ h 5 = .ptr 0 0 3 ∧ h 6 = .ptr 1 0 2 ∧ h 27 = .bool s_) ∧ bs = [.cells true 3 [lNodes n.nodes, lLinks n.links, lEdges n.edges], .cells true 2 [ints f_.links, .int .i64 f_.node]]) ?_ ?_
 ·skip
  rcases isp H1 with ⟨c1, H1⟩ | ⟨c1, H1⟩
  rotate_left
  ·skip
   repeat apply TW.seq
   refine rk [2, 3, 4, 5, 6, 27] [] (f2 hh (decide_eq_false c1)) ?_
   clear hh h
   intro h hh
   cases H1
   exact ce hh ⟨kq hh, rfl⟩
  repeat apply TW.seq
  refine rk [2, 3, 4, 5, 6, 27] [] (f2 hh (decide_eq_true c1)) ?_
  clear hh h
  intro h hh
  cases H1
  exact ce hh ⟨kq hh, rfl⟩
 clear hh h
 rintro h bs ⟨hh, rfl⟩
 rcases isb H with ⟨c2, H⟩ | ⟨c2, H⟩
 rotate_left
 ·skip
  repeat apply TW.seq
  refine cf (f2 hh c2) ?_
  repeat apply TW.seq
  refine sk ?_
  obtain ⟨g3, H⟩ := isg H
  repeat apply TW.seq
  refine rk [2, 3, 4, 5, 6, 12] [] (f2 hh c2) ?_
  clear hh h
  intro h hh
  repeat apply TW.seq
  refine rk [2, 3, 4, 5, 6, 12, 13] [] (f2 hh c2) ?_
  clear hh h
  intro h hh
  obtain ⟨o2, H1, H⟩ := bsome H
  repeat apply TW.seq
  refine cu [2, 3, 12] 3 (fun h bs => ∃ s_2 : List Int, o2 = .inr s_2 ∧ (h 2 = .int .i64 from_ ∧ h 3 = .int .i64 to_ ∧ h 12 = .arr 2 1 0 ((n.nodes.length : Int).toNat) ((n.nodes.length : Int).toNat) ((n.nodes.length : Int).toNat)) ∧ bs = [.cells true 3 [lNodes n.nodes, lLinks n.links, lEdges n.edges], .cells true 2 [ints f_.links, .int .i64 f_.node], .cells true ((n.nodes.length : Int).toNat) (s_2.map (T.int .i64))]) ?_ ?_
  ·skip
   repeat apply TW.seq
   apply TW.block
   repeat apply TW.seq
   refine TW.loopT [2, 3, 4, 5, 6, 12, 13] (fun m h bs => ∃ (k_ : Int) (l : List Int), sr22_Check_L0 k n f_ flow m k_ l = some o2 ∧ (h 2 = .int .i64 from_ ∧ h 3 = .int .i64 to_ ∧ h 4 = ints flow ∧ h 5 = .ptr 0 0 3 ∧ h 6 = .ptr 1 0 2 ∧ h 12 = .arr 2 1 0 ((n.nodes.length : Int).toNat) ((n.nodes.length : Int).toNat) ((n.nodes.length : Int).toNat) ∧ h 13 = .int .i64 k_) ∧ bs = [.cells true 3 [lNodes n.nodes, lLinks n.links, lEdges n.edges], .cells true 2 [ints f_.links, .int .i64 f_.node], .cells true ((n.nodes.length : Int).toNat) (l.map (T.int .i64))]) ?_ k _ _ ?_
   rotate_left
   ·exact ⟨0, (List.replicate (n.nodes.length : Int).toNat 0), H1, kq hh, rfl⟩
   clear hh h H1
   rintro m h bs ⟨k_, l, H1, hh, rfl⟩
   rcases m with _ | m
   ·rw [sr22_Check_L0] at H1; cases H1
   rw [sr22_Check_L0] at H1
   repeat apply TW.seq
   refine rk [2, 3, 4, 5, 6, 12, 13, 35] [] (f2 hh c2) ?_
   clear hh h
   intro h hh
   rcases isp H1 with ⟨c4, H1⟩ | ⟨c4, H1⟩
   rotate_left
   ·skip
    repeat apply TW.seq
    refine cf (f2 hh (decide_eq_false c4)) ?_
    refine xk ?_
    cases H1
    exact ce hh ⟨_, rfl, kq hh, rfl⟩
   repeat apply TW.seq
   refine ct (f2 hh (decide_eq_true c4)) ?_
   repeat apply TW.seq
   refine sk ?_
   repeat apply TW.seq
   apply TW.block
   obtain ⟨g5, H1⟩ := isg H1
   repeat apply TW.seq
   refine rk [2, 3, 4, 5, 6, 12, 13, 14] [] (f3 hh c2 (gx_some g5)) ?_
   clear hh h
   intro h hh
   obtain ⟨rUp, e6, H1⟩ := bsome H1
   repeat apply TW.seq
   refine rkc [2, 3, 4, 5, 6, 12, 13, 14, 15] [] [(.bool rUp, stL [.cells true 3 [lNodes n.nodes, lLinks n.links, lEdges n.edges], .cells true 2 [ints f_.links, .int .i64 f_.node], .cells true ((n.nodes.length : Int).toNat) (l.map (T.int .i64)), .cells true 3 [.int .i64 ((gx n.links k_).frm), .int .i64 ((gx n.links k_).to), .int .i64 ((gx n.links k_).cap)]])] (f2 hh c2) ?_ ?_
   ·exact ⟨Call0.call (Pure.clr (sr09_Up_ok ax hx k n f_ k_ rUp e6 ) (by first | rfl | simp only [c2])), trivial⟩
   clear hh h
   intro h hh
   obtain ⟨s_3, H2, H1⟩ := bsome H1
   repeat apply TW.seq
   refine cu [2, 3, 4, 5, 6, 12, 13, 14, 71] 4 (fun h bs => (h 2 = .int .i64 from_ ∧ h 3 = .int .i64 to_ ∧ h 4 = ints flow ∧ h 5 = .ptr 0 0 3 ∧ h 6 = .ptr 1 0 2 ∧ h 12 = .arr 2 1 0 ((n.nodes.length : Int).toNat) ((n.nodes.length : Int).toNat) ((n.nodes.length : Int).toNat) ∧ h 13 = .int .i64 k_ ∧ h 14 = .ptr 3 0 3 ∧ h 71 = .bool s_3) ∧ bs = [.cells true 3 [lNodes n.nodes, lLinks n.links, lEdges n.edges], .cells true 2 [ints f_.links, .int .i64 f_.node], .cells true ((n.nodes.length : Int).toNat) (l.map (T.int .i64)), .cells true 3 [.int .i64 ((gx n.links k_).frm), .int .i64 ((gx n.links k_).to), .int .i64 ((gx n.links k_).cap)]]) ?_ ?_
   ·skip
    obtain ⟨g7, H2⟩ := isg H2
    rcases isp H2 with ⟨c8, H2⟩ | ⟨c8, H2⟩
    rotate_left
    ·skip
     rcases isp H2 with ⟨c9, H2⟩ | ⟨c9, H2⟩
     rotate_left
     ·skip
      rcases isb H2 with ⟨c10, H2⟩ | ⟨c10, H2⟩
      rotate_left
      ·skip
       repeat apply TW.seq
       refine dk 12 [2, 3, 4, 5, 6, 12, 13, 14, 71] [] [] [] (f3 hh (decide_eq_false c8) (f3 (decide_eq_false c9) c10 (f2 c2 (gx_some g7)))) trivial trivial ?_
       clear hh h
       intro h hh
       cases H2
       exact ce hh ⟨kq hh, rfl⟩
      repeat apply TW.seq
      refine dk 12 [2, 3, 4, 5, 6, 12, 13, 14, 71] [] [] [] (f3 hh (decide_eq_false c8) (f3 (decide_eq_false c9) c10 (f2 c2 (gx_some g7)))) trivial trivial ?_
      clear hh h
      intro h hh
      cases H2
      exact ce hh ⟨kq hh, rfl⟩
     repeat apply TW.seq
     refine dk 12 [2, 3, 4, 5, 6, 12, 13, 14, 71] [] [] [] (f3 hh (decide_eq_false c8) (f3 (decide_eq_true c9) c2 (gx_some g7))) trivial trivial ?_
     clear hh h
     intro h hh
     cases H2
     exact ce hh ⟨kq hh, rfl⟩
    repeat apply TW.seq
    refine dk 12 [2, 3, 4, 5, 6, 12, 13, 14, 71] [] [] [] (f3 hh (decide_eq_true c8) (f2 c2 (gx_some g7))) trivial trivial ?_
    clear hh h
    intro h hh
    cases H2
    exact ce hh ⟨kq hh, rfl⟩
   clear hh h
   rintro h bs ⟨hh, rfl⟩
   rcases isb H1 with ⟨c11, H1⟩ | ⟨c11, H1⟩
   rotate_left
   ·skip
    repeat apply TW.seq
    refine cf (f2 hh c11) ?_
    repeat apply TW.seq
    refine sk ?_
    obtain ⟨g12, H1⟩ := isg H1
    obtain ⟨g13, H1⟩ := isg H1
    obtain ⟨g14, H1⟩ := isg H1
    repeat apply TW.seq
    refine dk 12 [2, 3, 4, 5, 6, 12, 13, 14] [] [] [] (f3 hh c2 (f3 c11 (get_some g13) (f2 (gx_some g14) (fun f v => @spl_map _ _ f _ v g13)))) trivial trivial ?_
    clear hh h
    intro h hh
    obtain ⟨g15, H1⟩ := isg H1
    obtain ⟨g16, H1⟩ := isg H1
    repeat apply TW.seq
    refine dk 12 [2, 3, 4, 5, 6, 12, 13] [] [] [] (f3 hh c2 (f3 c11 (get_some g16) (f2 (gx_some g14) (fun f v => @spl_map _ _ f _ v g16)))) trivial trivial ?_
    clear hh h
    intro h hh
    repeat apply TW.seq
    refine rk [2, 3, 4, 5, 6, 12, 13] [] (f3 hh c2 c11) ?_
    clear hh h
    intro h hh
    exact rd m hh ⟨(IntKind.i64.wrap (k_ + 1)), ((l.set ((gx n.links k_).frm).toNat (IntKind.i64.wrap ((l.getD ((gx n.links k_).frm).toNat default) + (gx flow k_)))).set ((gx n.links k_).to).toNat (IntKind.i64.wrap (((l.set ((gx n.links k_).frm).toNat (IntKind.i64.wrap ((l.getD ((gx n.links k_).frm).toNat default) + (gx flow k_)))).getD ((gx n.links k_).to).toNat default) - (gx flow k_)))), H1, kq hh, rfl⟩
   repeat apply TW.seq
   refine ct (f2 hh c11) ?_
   repeat apply TW.seq
   refine rk [10, 11] [] (f3 hh c2 c11) ?_
   clear hh h
   intro h hh
   cases H1
   obtain rfl := sinl H
   exact rt hh
  clear hh h
  rintro h bs ⟨s_2, rfl, hh, rfl⟩
  replace H := sinr H
  repeat apply TW.seq
  refine rk [2, 3, 12, 16] [] (f2 hh c2) ?_
  clear hh h
  intro h hh
  obtain ⟨o, H1, H⟩ := bsome H
  repeat apply TW.seq
  refine cu [2, 12] 3 (fun h bs => ∃ s_4 : Unit, o = .inr s_4 ∧ (h 2 = .int .i64 from_ ∧ h 12 = .arr 2 1 0 ((n.nodes.length : Int).toNat) ((n.nodes.length : Int).toNat) ((n.nodes.length : Int).toNat)) ∧ bs = [.cells true 3 [lNodes n.nodes, lLinks n.links, lEdges n.edges], .cells true 2 [ints f_.links, .int .i64 f_.node], .cells true ((n.nodes.length : Int).toNat) (s_2.map (T.int .i64))]) ?_ ?_
  ·skip
   repeat apply TW.seq
   apply TW.block
   repeat apply TW.seq
   refine TW.loopT [2, 3, 12, 16] (fun m h bs => ∃ (k_2 : Int), sr22_Check_L1 k n from_ to_ s_2 m k_2 = some o ∧ (h 2 = .int .i64 from_ ∧ h 3 = .int .i64 to_ ∧ h 12 = .arr 2 1 0 ((n.nodes.length : Int).toNat) ((n.nodes.length : Int).toNat) ((n.nodes.length : Int).toNat) ∧ h 16 = .int .i64 k_2) ∧ bs = [.cells true 3 [lNodes n.nodes, lLinks n.links, lEdges n.edges], .cells true 2 [ints f_.links, .int .i64 f_.node], .cells true ((n.nodes.length : Int).toNat) (s_2.map (T.int .i64))]) ?_ k _ _ ?_
   rotate_left
   ·exact ⟨0, H1, kq hh, rfl⟩
   clear hh h H1
   rintro m h bs ⟨k_2, H1, hh, rfl⟩
   rcases m with _ | m
   ·rw [sr22_Check_L1] at H1; cases H1
   rw [sr22_Check_L1] at H1
   repeat apply TW.seq
   refine rk [2, 3, 12, 16, 103] [] (f2 hh c2) ?_
   clear hh h
   intro h hh
   rcases isp H1 with ⟨c17, H1⟩ | ⟨c17, H1⟩
   rotate_left
   ·skip
    repeat apply TW.seq
    refine cf (f2 hh (decide_eq_false c17)) ?_
    refine xk ?_
    cases H1
    exact ce hh ⟨_, rfl, kq hh, rfl⟩
   repeat apply TW.seq
   refine ct (f2 hh (decide_eq_true c17)) ?_
   repeat apply TW.seq
   refine sk ?_
   repeat apply TW.seq
   apply TW.block
   rcases isp H1 with ⟨c18, H1⟩ | ⟨c18, H1⟩
   rotate_left
   ·skip
    repeat apply TW.seq
    refine rk [2, 3, 12, 16, 120] [] (f3 hh (decide_eq_false c18) c2) ?_
    clear hh h
    intro h hh
    repeat apply TW.seq
    refine cf hh ?_
    repeat apply TW.seq
    refine sk ?_
    repeat apply TW.seq
    refine rk [2, 3, 12, 16] [] (f2 hh c2) ?_
    clear hh h
    intro h hh
    exact rd m hh ⟨(IntKind.i64.wrap (k_2 + 1)), H1, kq hh, rfl⟩
   rcases isp H1 with ⟨c19, H1⟩ | ⟨c19, H1⟩
   rotate_left
   ·skip
    repeat apply TW.seq
    refine rk [2, 3, 12, 16, 120] [] (f3 hh (decide_eq_true c18) (f2 (decide_eq_false c19) c2)) ?_
    clear hh h
    intro h hh
    repeat apply TW.seq
    refine cf hh ?_
    repeat apply TW.seq
    refine sk ?_
    repeat apply TW.seq
    refine rk [2, 3, 12, 16] [] (f2 hh c2) ?_
    clear hh h
    intro h hh
    exact rd m hh ⟨(IntKind.i64.wrap (k_2 + 1)), H1, kq hh, rfl⟩
   obtain ⟨g20, H1⟩ := isg H1
   obtain ⟨g21, H1⟩ := isg H1
   repeat apply TW.seq
   refine rk [2, 3, 12, 16, 120] [] (f3 hh (decide_eq_true c18) (f3 (decide_eq_true c19) c2 (get_some g21))) ?_
   clear hh h
   intro h hh
   rcases isp H1 with ⟨c22, H1⟩ | ⟨c22, H1⟩
   rotate_left
   ·skip
    repeat apply TW.seq
    refine cf (f2 hh (decide_eq_false c22)) ?_
    repeat apply TW.seq
    refine sk ?_
    repeat apply TW.seq
    refine rk [2, 3, 12, 16] [] (f2 hh c2) ?_
    clear hh h
    intro h hh
    exact rd m hh ⟨(IntKind.i64.wrap (k_2 + 1)), H1, kq hh, rfl⟩
   repeat apply TW.seq
   refine ct (f2 hh (decide_eq_true c22)) ?_
   repeat apply TW.seq
   refine rk [10, 11] [] (f2 hh c2) ?_
   clear hh h
   intro h hh
   cases H1
   obtain rfl := sinl H
   exact rt hh
  clear hh h
  rintro h bs ⟨s_4, rfl, hh, rfl⟩
  replace H := sinr H
  obtain ⟨g23, H⟩ := isg H
  obtain ⟨g24, H⟩ := isg H
  repeat apply TW.seq
  refine rk [2, 12, 125] [] (f3 hh c2 (get_some g24)) ?_
  clear hh h
  intro h hh
  rcases isp H with ⟨c25, H⟩ | ⟨c25, H⟩
  rotate_left
  ·skip
   repeat apply TW.seq
   refine cf (f2 hh (decide_eq_false c25)) ?_
   repeat apply TW.seq
   refine sk ?_
   repeat apply TW.seq
   refine rk [10, 11] [] (f3 hh c2 (get_some g24)) ?_
   clear hh h
   intro h hh
   cases H
   exact rt hh
  repeat apply TW.seq
  refine ct (f2 hh (decide_eq_true c25)) ?_
  repeat apply TW.seq
  refine rk [10, 11] [] (f2 hh c2) ?_
  clear hh h
  intro h hh
  cases H
  exact rt hh
 repeat apply TW.seq
 refine ct (f2 hh c2) ?_
 repeat apply TW.seq
 refine rk [10, 11] [] (f2 hh c2) ?_
 clear hh h
 intro h hh
 cases H
 exact rt hh
def sr22_Greatest (k : Nat) (n : Net) (f_ : Failure) (from_ : Int) (to_ : Int) (flow : List Int) (cut : List Int) : Option Bool := ((sr22_Check k n f_ from_ to_ flow).bind fun rCheck => ((sr22_IsCut k n cut).bind fun rIsCut => ((sr22_has k cut from_).bind fun rhas => ((sr22_has k cut to_).bind fun rhas2 => (if rCheck.2 = true then (if rIsCut = true then (if rhas = true then (if rhas2 = true then some false else ((sr22_Capacity k n f_ cut).bind fun rCapacity => some (decide (rCapacity = rCheck.1)))) else some false) else some false) else some false)))))
set_option maxHeartbeats 8000000 in
theorem sr22_Greatest_ok (ax : Axs) (hx : Plain ax) (k : Nat) (n : Net) (f_ : Failure) (from_ : Int) (to_ : Int) (flow : List Int) (cut : List Int) (v : Bool) (H : sr22_Greatest k n f_ from_ to_ flow cut = some v) : Pure Try.prog (EE ax) [] 14 [eNet n, eFail f_, .int .i64 from_, .int .i64 to_, ints flow, ints cut] (.bool v) := by
 rw [sr22_Greatest] at H
 refine en [.tmp 12] 55 [0, 1, 2, 3, 4, 5] (hx.no _ (by decide)) (fn14 ax) ?_
 intro h hh
 repeat apply TW.seq
 refine rk [2, 3, 4, 5, 6, 7] [] hh ?_
 clear hh h
 intro h hh
 obtain ⟨rCheck, e1, H⟩ := bsome H
 repeat apply TW.seq
 refine rkc [2, 3, 5, 6, 7, 13, 14] [] [(.tup [.int .i64 rCheck.1, .bool rCheck.2], stL [.cells true 3 [lNodes n.nodes, lLinks n.links, lEdges n.edges], .cells true 2 [ints f_.links, .int .i64 f_.node]])] hh ?_ ?_
 ·exact ⟨Call0.call ((sr22_Check_ok ax hx k n f_ from_ to_ flow rCheck e1 ).call _), trivial⟩
 clear hh h
 intro h hh
 obtain ⟨rIsCut, e2, H⟩ := bsome H
 repeat apply TW.seq
 refine rkc [2, 3, 5, 6, 7, 13, 14, 15] [] [(.bool rIsCut, stL [.cells true 3 [lNodes n.nodes, lLinks n.links, lEdges n.edges], .cells true 2 [ints f_.links, .int .i64 f_.node]])] hh ?_ ?_
 ·exact ⟨Call0.call ((sr22_IsCut_ok ax hx k n cut rIsCut e2 ).call _), trivial⟩
 clear hh h
 intro h hh
 obtain ⟨rhas, e3, H⟩ := bsome H
 repeat apply TW.seq
 refine rkc [3, 5, 6, 7, 13, 14, 15, 16] [] [(.bool rhas, stL [.cells true 3 [lNodes n.nodes, lLinks n.links, lEdges n.edges], .cells true 2 [ints f_.links, .int .i64 f_.node]])] hh ?_ ?_
 ·exact ⟨Call0.call ((sr22_has_ok ax hx k cut from_ rhas e3 ).call _), trivial⟩
 clear hh h
 intro h hh
 obtain ⟨rhas2, e4, H⟩ := bsome H
 repeat apply TW.seq
 refine rkc [5, 6, 7, 13, 14, 15, 16, 17] [] [(.bool rhas2, stL [.cells true 3 [lNodes n.nodes, lLinks n.links, lEdges n.edges], .cells true 2 [ints f_.links, .int .i64 f_.node]])] hh ?_ ?_
 ·exact ⟨Call0.call ((sr22_has_ok ax hx k cut to_ rhas2 e4 ).call _), trivial⟩
 clear hh h
 intro h hh
 rcases isb H with ⟨c5, H⟩ | ⟨c5, H⟩
 rotate_left
 ·skip
  repeat apply TW.seq
  refine rk [12] [] (f2 hh c5) ?_
  clear hh h
  intro h hh
  cases H
  exact rt hh
 rcases isb H with ⟨c6, H⟩ | ⟨c6, H⟩
 rotate_left
 ·skip
  repeat apply TW.seq
  refine rk [12] [] (f3 hh c5 c6) ?_
  clear hh h
  intro h hh
  cases H
  exact rt hh
 rcases isb H with ⟨c7, H⟩ | ⟨c7, H⟩
 rotate_left
 ·skip
  repeat apply TW.seq
  refine rk [12] [] (f3 hh c5 (f2 c6 c7)) ?_
  clear hh h
  intro h hh
  cases H
  exact rt hh
 rcases isb H with ⟨c8, H⟩ | ⟨c8, H⟩
 rotate_left
 ·skip
  obtain ⟨rCapacity, e9, H⟩ := bsome H
  repeat apply TW.seq
  refine rkc [12] [] [(.int .i64 rCapacity, stL [.cells true 3 [lNodes n.nodes, lLinks n.links, lEdges n.edges], .cells true 2 [ints f_.links, .int .i64 f_.node]])] (f3 hh c5 (f3 c6 c7 c8)) ?_ ?_
  ·exact ⟨Call0.call (Pure.clr (sr22_Capacity_ok ax hx k n f_ cut rCapacity e9 ) (by first | rfl | simp only [c5, c6, c7, c8])), trivial⟩
  clear hh h
  intro h hh
  cases H
  exact rt hh
 repeat apply TW.seq
 refine rk [12] [] (f3 hh c5 (f3 c6 c7 c8)) ?_
 clear hh h
 intro h hh
 cases H
 exact rt hh
def sr22_Prices_L0 (k : Nat) (prices : List Int) : Nat → Int → Option (Bool ⊕ Unit)
 | 0, _ => none
 | m + 1, k_ => (if k_ < (prices.length : Int) then (if (0 : Int) ≤ k_ ∧ k_ < (prices.length : Int) then (if (gx prices k_) < 0 then some (.inl false) else (if 1048576 < (gx prices k_) then some (.inl false) else sr22_Prices_L0 k prices m (IntKind.i64.wrap (k_ + 1)))) else none) else some (.inr ()))
def sr22_Prices (k : Nat) (n : Net) (prices : List Int) : Option Bool := ((sr22_Prices_L0 k prices k 0 : Option (Bool ⊕ Unit)).bind fun o => Sum.elim (fun r => some r) (fun s_ => some (decide ((prices.length : Int) = (n.links.length : Int)))) o)
set_option maxHeartbeats 8000000 in
theorem sr22_Prices_ok (ax : Axs) (hx : Plain ax) (k : Nat) (n : Net) (prices : List Int) (v : Bool) (H : sr22_Prices k n prices = some v) : Pure Try.prog (EE ax) [] 20 [eNet n, ints prices] (.bool v) := by
 rw [sr22_Prices] at H
 refine en [.tmp 4] 30 [0, 1] (hx.no _ (by decide)) (fn20 ax) ?_
 intro h hh
 repeat apply TW.seq
 refine rk [1, 2] [] hh ?_
 clear hh h
 intro h hh
 repeat apply TW.seq
 refine rk [1, 2, 5] [] hh ?_
 clear hh h
 intro h hh
 obtain ⟨o, H1, H⟩ := bsome H
 repeat apply TW.seq
 refine cu [1, 2] 1 (fun h bs => ∃ s_ : Unit, o = .inr s_ ∧ (h 1 = ints prices ∧ h 2 = .ptr 0 0 3) ∧ bs = [.cells true 3 [lNodes n.nodes, lLinks n.links, lEdges n.edges]]) ?_ ?_
 ·skip
  repeat apply TW.seq
  apply TW.block
  repeat apply TW.seq
  refine TW.loopT [1, 2, 5] (fun m h bs => ∃ (k_ : Int), sr22_Prices_L0 k prices m k_ = some o ∧ (h 1 = ints prices ∧ h 2 = .ptr 0 0 3 ∧ h 5 = .int .i64 k_) ∧ bs = [.cells true 3 [lNodes n.nodes, lLinks n.links, lEdges n.edges]]) ?_ k _ _ ?_
  rotate_left
  ·exact ⟨0, H1, kq hh, rfl⟩
  clear hh h H1
  rintro m h bs ⟨k_, H1, hh, rfl⟩
  rcases m with _ | m
  ·rw [sr22_Prices_L0] at H1; cases H1
  rw [sr22_Prices_L0] at H1
  repeat apply TW.seq
  refine rk [1, 2, 5, 9] [] hh ?_
  clear hh h
  intro h hh
  rcases isp H1 with ⟨c1, H1⟩ | ⟨c1, H1⟩
  rotate_left
  ·skip
   repeat apply TW.seq
   refine cf (f2 hh (decide_eq_false c1)) ?_
   refine xk ?_
   cases H1
   exact ce hh ⟨_, rfl, kq hh, rfl⟩
  repeat apply TW.seq
  refine ct (f2 hh (decide_eq_true c1)) ?_
  repeat apply TW.seq
  refine sk ?_
  repeat apply TW.seq
  apply TW.block
  obtain ⟨g2, H1⟩ := isg H1
  rcases isp H1 with ⟨c3, H1⟩ | ⟨c3, H1⟩
  rotate_left
  ·skip
   repeat apply TW.seq
   refine rk [1, 2, 5, 23] [] (f3 hh (decide_eq_false c3) (gx_some g2)) ?_
   clear hh h
   intro h hh
   rcases isp H1 with ⟨c4, H1⟩ | ⟨c4, H1⟩
   rotate_left
   ·skip
    repeat apply TW.seq
    refine cf (f2 hh (decide_eq_false c4)) ?_
    repeat apply TW.seq
    refine sk ?_
    repeat apply TW.seq
    refine rk [1, 2, 5] [] hh ?_
    clear hh h
    intro h hh
    exact rd m hh ⟨(IntKind.i64.wrap (k_ + 1)), H1, kq hh, rfl⟩
   repeat apply TW.seq
   refine ct (f2 hh (decide_eq_true c4)) ?_
   repeat apply TW.seq
   refine rk [4] [] hh ?_
   clear hh h
   intro h hh
   cases H1
   obtain rfl := sinl H
   exact rt hh
  repeat apply TW.seq
  refine rk [1, 2, 5, 23] [] (f3 hh (decide_eq_true c3) (gx_some g2)) ?_
  clear hh h
  intro h hh
  repeat apply TW.seq
  refine ct hh ?_
  repeat apply TW.seq
  refine rk [4] [] hh ?_
  clear hh h
  intro h hh
  cases H1
  obtain rfl := sinl H
  exact rt hh
 clear hh h
 rintro h bs ⟨s_, rfl, hh, rfl⟩
 replace H := sinr H
 repeat apply TW.seq
 refine rk [4] [] hh ?_
 clear hh h
 intro h hh
 cases H
 exact rt hh
def sr22_Cost_L0 (k : Nat) (prices : List Int) (flow : List Int) : Nat → Int → Int → Option Int
 | 0, _, _ => none
 | m + 1, sum, k_ => (if k_ < (prices.length : Int) then (if (0 : Int) ≤ k_ ∧ k_ < (prices.length : Int) then (if (0 : Int) ≤ k_ ∧ k_ < (flow.length : Int) then sr22_Cost_L0 k prices flow m (IntKind.i64.wrap (sum + (IntKind.i64.wrap ((gx prices k_) * (gx flow k_))))) (IntKind.i64.wrap (k_ + 1)) else none) else none) else some sum)
def sr22_Cost (k : Nat) (prices : List Int) (flow : List Int) : Option Int := ((sr22_Cost_L0 k prices flow k 0 0 : Option Int).bind fun s_ => some s_)
set_option maxHeartbeats 8000000 in
theorem sr22_Cost_ok (ax : Axs) (hx : Plain ax) (k : Nat) (prices : List Int) (flow : List Int) (v : Int) (H : sr22_Cost k prices flow = some v) : Pure Try.prog (EE ax) [] 22 [ints prices, ints flow] (.int .i64 v) := by
 rw [sr22_Cost] at H
 refine en [.tmp 4] 25 [0, 1] (hx.no _ (by decide)) (fn22 ax) ?_
 intro h hh
 repeat apply TW.seq
 refine rk [0, 1] [] hh ?_
 clear hh h
 intro h hh
 repeat apply TW.seq
 refine rk [0, 1, 5] [] hh ?_
 clear hh h
 intro h hh
 repeat apply TW.seq
 refine rk [0, 1, 5, 6] [] hh ?_
 clear hh h
 intro h hh
 obtain ⟨s_, H1, H⟩ := bsome H
 repeat apply TW.seq
 refine cu [5] 0 (fun h bs => (h 5 = .int .i64 s_) ∧ bs = []) ?_ ?_
 ·skip
  repeat apply TW.seq
  apply TW.block
  repeat apply TW.seq
  refine TW.loopT [0, 1, 5, 6] (fun m h bs => ∃ (sum : Int) (k_ : Int), sr22_Cost_L0 k prices flow m sum k_ = some s_ ∧ (h 0 = ints prices ∧ h 1 = ints flow ∧ h 5 = .int .i64 sum ∧ h 6 = .int .i64 k_) ∧ bs = []) ?_ k _ _ ?_
  rotate_left
  ·exact ⟨0, 0, H1, kq hh, rfl⟩
  clear hh h H1
  rintro m h bs ⟨sum, k_, H1, hh, rfl⟩
  rcases m with _ | m
  ·rw [sr22_Cost_L0] at H1; cases H1
  rw [sr22_Cost_L0] at H1
  repeat apply TW.seq
  refine rk [0, 1, 5, 6, 10] [] hh ?_
  clear hh h
  intro h hh
  rcases isp H1 with ⟨c1, H1⟩ | ⟨c1, H1⟩
  rotate_left
  ·skip
   repeat apply TW.seq
   refine cf (f2 hh (decide_eq_false c1)) ?_
   refine xk ?_
   cases H1
   exact ce hh ⟨kq hh, rfl⟩
  repeat apply TW.seq
  refine ct (f2 hh (decide_eq_true c1)) ?_
  repeat apply TW.seq
  refine sk ?_
  repeat apply TW.seq
  apply TW.block
  obtain ⟨g2, H1⟩ := isg H1
  obtain ⟨g3, H1⟩ := isg H1
  repeat apply TW.seq
  refine dk 9 [0, 1, 5, 6] [] [] [] (f3 hh (gx_some g2) (gx_some g3)) trivial trivial ?_
  clear hh h
  intro h hh
  repeat apply TW.seq
  refine rk [0, 1, 5, 6] [] hh ?_
  clear hh h
  intro h hh
  exact rd m hh ⟨(IntKind.i64.wrap (sum + (IntKind.i64.wrap ((gx prices k_) * (gx flow k_))))), (IntKind.i64.wrap (k_ + 1)), H1, kq hh, rfl⟩
 clear hh h
 rintro h bs ⟨hh, rfl⟩
 repeat apply TW.seq
 refine rk [4] [] hh ?_
 clear hh h
 intro h hh
 cases H
 exact rt hh
def sr22_Cheapest_L0 (k : Nat) (potentials : List Int) : Nat → Int → Option (Bool ⊕ Unit)
 | 0, _ => none
 | m + 1, k_ => (if k_ < (potentials.length : Int) then (if (0 : Int) ≤ k_ ∧ k_ < (potentials.length : Int) then (if (gx potentials k_) < 0 then some (.inl false) else (if 4294967296 < (gx potentials k_) then some (.inl false) else sr22_Cheapest_L0 k potentials m (IntKind.i64.wrap (k_ + 1)))) else none) else some (.inr ()))
def sr22_Cheapest_L1 (k : Nat) (n : Net) (f_ : Failure) (prices : List Int) (flow : List Int) (potentials : List Int) : Nat → Int → Option (Bool ⊕ Unit)
 | 0, _ => none
 | m + 1, k_2 => (if k_2 < (n.links.length : Int) then (if (0 : Int) ≤ k_2 ∧ k_2 < (n.links.length : Int) then ((sr09_Up k n f_ k_2).bind fun rUp => (if (0 : Int) ≤ k_2 ∧ k_2 < (prices.length : Int) then (if (0 : Int) ≤ ((gx n.links k_2).frm) ∧ ((gx n.links k_2).frm) < (potentials.length : Int) then (if (0 : Int) ≤ ((gx n.links k_2).to) ∧ ((gx n.links k_2).to) < (potentials.length : Int) then (if rUp = true then (if (0 : Int) ≤ k_2 ∧ k_2 < (flow.length : Int) then (if (gx flow k_2) < ((gx n.links k_2).cap) then (if (IntKind.i64.wrap ((IntKind.i64.wrap ((gx prices k_2) + (gx potentials ((gx n.links k_2).frm)))) - (gx potentials ((gx n.links k_2).to)))) < 0 then some (.inl false) else (if 0 < (gx flow k_2) then (if 0 < (IntKind.i64.wrap ((IntKind.i64.wrap ((gx prices k_2) + (gx potentials ((gx n.links k_2).frm)))) - (gx potentials ((gx n.links k_2).to)))) then some (.inl false) else sr22_Cheapest_L1 k n f_ prices flow potentials m (IntKind.i64.wrap (k_2 + 1))) else sr22_Cheapest_L1 k n f_ prices flow potentials m (IntKind.i64.wrap (k_2 + 1)))) else (if 0 < (gx flow k_2) then (if 0 < (IntKind.i64.wrap ((IntKind.i64.wrap ((gx prices k_2) + (gx potentials ((gx n.links k_2).frm)))) - (gx potentials ((gx n.links k_2).to)))) then some (.inl false) else sr22_Cheapest_L1 k n f_ prices flow potentials m (IntKind.i64.wrap (k_2 + 1))) else sr22_Cheapest_L1 k n f_ prices flow potentials m (IntKind.i64.wrap (k_2 + 1)))) else none) else sr22_Cheapest_L1 k n f_ prices flow potentials m (IntKind.i64.wrap (k_2 + 1))) else none) else none) else none)) else none) else some (.inr ()))
def sr22_Cheapest (k : Nat) (n : Net) (f_ : Failure) (prices : List Int) (from_ : Int) (to_ : Int) (flow : List Int) (potentials : List Int) : Option Bool := ((sr22_Check k n f_ from_ to_ flow).bind fun rCheck => ((sr22_Prices k n prices).bind fun rPrices => (((if rCheck.2 = true then (if rPrices = true then some (decide ((potentials.length : Int) ≠ (n.nodes.length : Int))) else some true) else some true) : Option Bool).bind fun s_ => (if s_ = true then some false else ((sr22_Cheapest_L0 k potentials k 0 : Option (Bool ⊕ Unit)).bind fun o2 => Sum.elim (fun r => some r) (fun s_2 => ((sr22_Cheapest_L1 k n f_ prices flow potentials k 0 : Option (Bool ⊕ Unit)).bind fun o => Sum.elim (fun r => some r) (fun s_3 => some true) o)) o2)))))
set_option maxHeartbeats 8000000 in
theorem sr22_Cheapest_ok (ax : Axs) (hx : Plain ax) (k : Nat) (n : Net) (f_ : Failure) (prices : List Int) (from_ : Int) (to_ : Int) (flow : List Int) (potentials : List Int) (v : Bool) (H : sr22_Cheapest k n f_ prices from_ to_ flow potentials = some v) : Pure Try.prog (EE ax) [] 16 [eNet n, eFail f_, ints prices, .int .i64 from_, .int .i64 to_, ints flow, ints potentials] (.bool v) := by
 rw [sr22_Cheapest] at H
 refine en [.tmp 14] 124 [0, 1, 2, 3, 4, 5, 6] (hx.no _ (by decide)) (fn16 ax) ?_
 intro h hh
 repeat apply TW.seq
 refine rk [2, 3, 4, 5, 6, 7, 8] [] hh ?_
 clear hh h
 intro h hh
 obtain ⟨rCheck, e1, H⟩ := bsome H
 repeat apply TW.seq
 refine rkc [2, 5, 6, 7, 8, 16] [] [(.tup [.int .i64 rCheck.1, .bool rCheck.2], stL [.cells true 3 [lNodes n.nodes, lLinks n.links, lEdges n.edges], .cells true 2 [ints f_.links, .int .i64 f_.node]])] hh ?_ ?_
 ·exact ⟨Call0.call ((sr22_Check_ok ax hx k n f_ from_ to_ flow rCheck e1 ).call _), trivial⟩
 clear hh h
 intro h hh
 obtain ⟨rPrices, e2, H⟩ := bsome H
 repeat apply TW.seq
 refine rkc [2, 5, 6, 7, 8, 16, 17] [] [(.bool rPrices, stL [.cells true 3 [lNodes n.nodes, lLinks n.links, lEdges n.edges], .cells true 2 [ints f_.links, .int .i64 f_.node]])] hh ?_ ?_
 ·exact ⟨Call0.call ((sr22_Prices_ok ax hx k n prices rPrices e2 ).call _), trivial⟩
 clear hh h
 intro h hh
 obtain ⟨s_, H1, H⟩ := bsome H
 repeat apply TW.seq
 refine cu [2, 5, 6, 7, 8, 48] 2 (fun h bs => (h 2 = ints prices ∧ h 5 = ints flow ∧ h 6 = ints potentials ∧ h 7 = .ptr 0 0 3 ∧ h 8 = .ptr 1 0 2 ∧ h 48 = .bool s_) ∧ bs = [.cells true 3 [lNodes n.nodes, lLinks n.links, lEdges n.edges], .cells true 2 [ints f_.links, .int .i64 f_.node]]) ?_ ?_
 ·skip
  rcases isb H1 with ⟨c3, H1⟩ | ⟨c3, H1⟩
  rotate_left
  ·skip
   repeat apply TW.seq
   refine rk [2, 5, 6, 7, 8, 48] [] (f2 hh c3) ?_
   clear hh h
   intro h hh
   cases H1
   exact ce hh ⟨kq hh, rfl⟩
  rcases isb H1 with ⟨c4, H1⟩ | ⟨c4, H1⟩
  rotate_left
  ·skip
   repeat apply TW.seq
   refine rk [2, 5, 6, 7, 8, 48] [] (f3 hh c3 c4) ?_
   clear hh h
   intro h hh
   cases H1
   exact ce hh ⟨kq hh, rfl⟩
  repeat apply TW.seq
  refine rk [2, 5, 6, 7, 8, 48] [] (f3 hh c3 c4) ?_
  clear hh h
  intro h hh
  cases H1
  exact ce hh ⟨kq hh, rfl⟩
 clear hh h
 rintro h bs ⟨hh, rfl⟩
 rcases isb H with ⟨c5, H⟩ | ⟨c5, H⟩
 rotate_left
 ·skip
  repeat apply TW.seq
  refine cf (f2 hh c5) ?_
  repeat apply TW.seq
  refine sk ?_
  repeat apply TW.seq
  refine rk [2, 5, 6, 7, 8, 18] [] (f2 hh c5) ?_
  clear hh h
  intro h hh
  obtain ⟨o2, H1, H⟩ := bsome H
  repeat apply TW.seq
  refine cu [2, 5, 6, 7, 8] 2 (fun h bs => ∃ s_2 : Unit, o2 = .inr s_2 ∧ (h 2 = ints prices ∧ h 5 = ints flow ∧ h 6 = ints potentials ∧ h 7 = .ptr 0 0 3 ∧ h 8 = .ptr 1 0 2) ∧ bs = [.cells true 3 [lNodes n.nodes, lLinks n.links, lEdges n.edges], .cells true 2 [ints f_.links, .int .i64 f_.node]]) ?_ ?_
  ·skip
   repeat apply TW.seq
   apply TW.block
   repeat apply TW.seq
   refine TW.loopT [2, 5, 6, 7, 8, 18] (fun m h bs => ∃ (k_ : Int), sr22_Cheapest_L0 k potentials m k_ = some o2 ∧ (h 2 = ints prices ∧ h 5 = ints flow ∧ h 6 = ints potentials ∧ h 7 = .ptr 0 0 3 ∧ h 8 = .ptr 1 0 2 ∧ h 18 = .int .i64 k_) ∧ bs = [.cells true 3 [lNodes n.nodes, lLinks n.links, lEdges n.edges], .cells true 2 [ints f_.links, .int .i64 f_.node]]) ?_ k _ _ ?_
   rotate_left
   ·exact ⟨0, H1, kq hh, rfl⟩
   clear hh h H1
   rintro m h bs ⟨k_, H1, hh, rfl⟩
   rcases m with _ | m
   ·rw [sr22_Cheapest_L0] at H1; cases H1
   rw [sr22_Cheapest_L0] at H1
   repeat apply TW.seq
   refine rk [2, 5, 6, 7, 8, 18, 52] [] (f2 hh c5) ?_
   clear hh h
   intro h hh
   rcases isp H1 with ⟨c6, H1⟩ | ⟨c6, H1⟩
   rotate_left
   ·skip
    repeat apply TW.seq
    refine cf (f2 hh (decide_eq_false c6)) ?_
    refine xk ?_
    cases H1
    exact ce hh ⟨_, rfl, kq hh, rfl⟩
   repeat apply TW.seq
   refine ct (f2 hh (decide_eq_true c6)) ?_
   repeat apply TW.seq
   refine sk ?_
   repeat apply TW.seq
   apply TW.block
   obtain ⟨g7, H1⟩ := isg H1
   rcases isp H1 with ⟨c8, H1⟩ | ⟨c8, H1⟩
   rotate_left
   ·skip
    repeat apply TW.seq
    refine rk [2, 5, 6, 7, 8, 18, 66] [] (f3 hh (decide_eq_false c8) (f2 c5 (gx_some g7))) ?_
    clear hh h
    intro h hh
    rcases isp H1 with ⟨c9, H1⟩ | ⟨c9, H1⟩
    rotate_left
    ·skip
     repeat apply TW.seq
     refine cf (f2 hh (decide_eq_false c9)) ?_
     repeat apply TW.seq
     refine sk ?_
     repeat apply TW.seq
     refine rk [2, 5, 6, 7, 8, 18] [] (f2 hh c5) ?_
     clear hh h
     intro h hh
     exact rd m hh ⟨(IntKind.i64.wrap (k_ + 1)), H1, kq hh, rfl⟩
    repeat apply TW.seq
    refine ct (f2 hh (decide_eq_true c9)) ?_
    repeat apply TW.seq
    refine rk [14] [] (f2 hh c5) ?_
    clear hh h
    intro h hh
    cases H1
    obtain rfl := sinl H
    exact rt hh
   repeat apply TW.seq
   refine rk [2, 5, 6, 7, 8, 18, 66] [] (f3 hh (decide_eq_true c8) (f2 c5 (gx_some g7))) ?_
   clear hh h
   intro h hh
   repeat apply TW.seq
   refine ct hh ?_
   repeat apply TW.seq
   refine rk [14] [] (f2 hh c5) ?_
   clear hh h
   intro h hh
   cases H1
   obtain rfl := sinl H
   exact rt hh
  clear hh h
  rintro h bs ⟨s_2, rfl, hh, rfl⟩
  replace H := sinr H
  repeat apply TW.seq
  refine rk [2, 5, 6, 7, 8, 19] [] (f2 hh c5) ?_
  clear hh h
  intro h hh
  obtain ⟨o, H1, H⟩ := bsome H
  repeat apply TW.seq
  refine cu [] 2 (fun h bs => ∃ s_3 : Unit, o = .inr s_3 ∧ (True) ∧ bs = [.cells true 3 [lNodes n.nodes, lLinks n.links, lEdges n.edges], .cells true 2 [ints f_.links, .int .i64 f_.node]]) ?_ ?_
  ·skip
   repeat apply TW.seq
   apply TW.block
   repeat apply TW.seq
   refine TW.loopT [2, 5, 6, 7, 8, 19] (fun m h bs => ∃ (k_2 : Int), sr22_Cheapest_L1 k n f_ prices flow potentials m k_2 = some o ∧ (h 2 = ints prices ∧ h 5 = ints flow ∧ h 6 = ints potentials ∧ h 7 = .ptr 0 0 3 ∧ h 8 = .ptr 1 0 2 ∧ h 19 = .int .i64 k_2) ∧ bs = [.cells true 3 [lNodes n.nodes, lLinks n.links, lEdges n.edges], .cells true 2 [ints f_.links, .int .i64 f_.node]]) ?_ k _ _ ?_
   rotate_left
   ·exact ⟨0, H1, kq hh, rfl⟩
   clear hh h H1
   rintro m h bs ⟨k_2, H1, hh, rfl⟩
   rcases m with _ | m
   ·rw [sr22_Cheapest_L1] at H1; cases H1
   rw [sr22_Cheapest_L1] at H1
   repeat apply TW.seq
   refine rk [2, 5, 6, 7, 8, 19, 71] [] (f2 hh c5) ?_
   clear hh h
   intro h hh
   rcases isp H1 with ⟨c10, H1⟩ | ⟨c10, H1⟩
   rotate_left
   ·skip
    repeat apply TW.seq
    refine cf (f2 hh (decide_eq_false c10)) ?_
    refine xk ?_
    cases H1
    exact ce hh ⟨_, rfl, kq hh, rfl⟩
   repeat apply TW.seq
   refine ct (f2 hh (decide_eq_true c10)) ?_
   repeat apply TW.seq
   refine sk ?_
   repeat apply TW.seq
   apply TW.block
   obtain ⟨g11, H1⟩ := isg H1
   repeat apply TW.seq
   refine rk [2, 5, 6, 7, 8, 19, 20] [] (f3 hh c5 (gx_some g11)) ?_
   clear hh h
   intro h hh
   obtain ⟨rUp, e12, H1⟩ := bsome H1
   repeat apply TW.seq
   refine rkc [2, 5, 6, 7, 8, 19, 20, 21] [] [(.bool rUp, stL [.cells true 3 [lNodes n.nodes, lLinks n.links, lEdges n.edges], .cells true 2 [ints f_.links, .int .i64 f_.node], .cells true 3 [.int .i64 ((gx n.links k_2).frm), .int .i64 ((gx n.links k_2).to), .int .i64 ((gx n.links k_2).cap)]])] (f2 hh c5) ?_ ?_
   ·exact ⟨Call0.call (Pure.clr (sr09_Up_ok ax hx k n f_ k_2 rUp e12 ) (by first | rfl | simp only [c5])), trivial⟩
   clear hh h
   intro h hh
   obtain ⟨g13, H1⟩ := isg H1
   obtain ⟨g14, H1⟩ := isg H1
   obtain ⟨g15, H1⟩ := isg H1
   repeat apply TW.seq
   refine dk 15 [2, 5, 6, 7, 8, 19, 20, 21, 22] [] [] [] (f3 hh c5 (f3 (gx_some g13) (gx_some g14) (gx_some g15))) trivial trivial ?_
   clear hh h
   intro h hh
   rcases isb H1 with ⟨c16, H1⟩ | ⟨c16, H1⟩
   rotate_left
   ·skip
    repeat apply TW.seq
    refine dk 8 [2, 5, 6, 7, 8, 19, 123] [] [] [] (f3 hh c16 c5) trivial trivial ?_
    clear hh h
    intro h hh
    repeat apply TW.seq
    refine cf hh ?_
    repeat apply TW.seq
    refine sk ?_
    repeat apply TW.seq
    refine rk [2, 5, 6, 7, 8, 19] [] (f3 hh c5 c16) ?_
    clear hh h
    intro h hh
    exact rd m hh ⟨(IntKind.i64.wrap (k_2 + 1)), H1, kq hh, rfl⟩
   obtain ⟨g17, H1⟩ := isg H1
   rcases isp H1 with ⟨c18, H1⟩ | ⟨c18, H1⟩
   rotate_left
   ·skip
    rcases isp H1 with ⟨c22, H1⟩ | ⟨c22, H1⟩
    rotate_left
    ·skip
     repeat apply TW.seq
     refine dk 8 [2, 5, 6, 7, 8, 19, 123] [] [] [] (f3 hh c16 (f3 (decide_eq_false c18) (decide_eq_false c22) (f2 c5 (gx_some g17)))) trivial trivial ?_
     clear hh h
     intro h hh
     repeat apply TW.seq
     refine cf hh ?_
     repeat apply TW.seq
     refine sk ?_
     repeat apply TW.seq
     refine rk [2, 5, 6, 7, 8, 19] [] (f3 hh c5 c16) ?_
     clear hh h
     intro h hh
     exact rd m hh ⟨(IntKind.i64.wrap (k_2 + 1)), H1, kq hh, rfl⟩
    repeat apply TW.seq
    refine dk 8 [2, 5, 6, 7, 8, 19, 123] [] [] [] (f3 hh c16 (f3 (decide_eq_false c18) (decide_eq_true c22) (f2 c5 (gx_some g17)))) trivial trivial ?_
    clear hh h
    intro h hh
    rcases isp H1 with ⟨c23, H1⟩ | ⟨c23, H1⟩
    rotate_left
    ·skip
     repeat apply TW.seq
     refine cf (f2 hh (decide_eq_false c23)) ?_
     repeat apply TW.seq
     refine sk ?_
     repeat apply TW.seq
     refine rk [2, 5, 6, 7, 8, 19] [] (f3 hh c5 c16) ?_
     clear hh h
     intro h hh
     exact rd m hh ⟨(IntKind.i64.wrap (k_2 + 1)), H1, kq hh, rfl⟩
    repeat apply TW.seq
    refine ct (f2 hh (decide_eq_true c23)) ?_
    repeat apply TW.seq
    refine rk [14] [] (f3 hh c5 c16) ?_
    clear hh h
    intro h hh
    cases H1
    obtain rfl := sinl H
    exact rt hh
   rcases isp H1 with ⟨c19, H1⟩ | ⟨c19, H1⟩
   rotate_left
   ·skip
    rcases isp H1 with ⟨c20, H1⟩ | ⟨c20, H1⟩
    rotate_left
    ·skip
     repeat apply TW.seq
     refine dk 8 [2, 5, 6, 7, 8, 19, 123] [] [] [] (f3 hh c16 (f3 (decide_eq_true c18) (decide_eq_false c19) (f3 (decide_eq_false c20) c5 (gx_some g17)))) trivial trivial ?_
     clear hh h
     intro h hh
     repeat apply TW.seq
     refine cf hh ?_
     repeat apply TW.seq
     refine sk ?_
     repeat apply TW.seq
     refine rk [2, 5, 6, 7, 8, 19] [] (f3 hh c5 c16) ?_
     clear hh h
     intro h hh
     exact rd m hh ⟨(IntKind.i64.wrap (k_2 + 1)), H1, kq hh, rfl⟩
    repeat apply TW.seq
    refine dk 8 [2, 5, 6, 7, 8, 19, 123] [] [] [] (f3 hh c16 (f3 (decide_eq_true c18) (decide_eq_false c19) (f3 (decide_eq_true c20) c5 (gx_some g17)))) trivial trivial ?_
    clear hh h
    intro h hh
    rcases isp H1 with ⟨c21, H1⟩ | ⟨c21, H1⟩
    rotate_left
    ·skip
     repeat apply TW.seq
     refine cf (f2 hh (decide_eq_false c21)) ?_
     repeat apply TW.seq
     refine sk ?_
     repeat apply TW.seq
     refine rk [2, 5, 6, 7, 8, 19] [] (f3 hh c5 c16) ?_
     clear hh h
     intro h hh
     exact rd m hh ⟨(IntKind.i64.wrap (k_2 + 1)), H1, kq hh, rfl⟩
    repeat apply TW.seq
    refine ct (f2 hh (decide_eq_true c21)) ?_
    repeat apply TW.seq
    refine rk [14] [] (f3 hh c5 c16) ?_
    clear hh h
    intro h hh
    cases H1
    obtain rfl := sinl H
    exact rt hh
   repeat apply TW.seq
   refine dk 8 [2, 5, 6, 7, 8, 19, 123] [] [] [] (f3 hh c16 (f3 (decide_eq_true c18) (decide_eq_true c19) (f2 c5 (gx_some g17)))) trivial trivial ?_
   clear hh h
   intro h hh
   repeat apply TW.seq
   refine ct hh ?_
   repeat apply TW.seq
   refine rk [14] [] (f3 hh c5 c16) ?_
   clear hh h
   intro h hh
   cases H1
   obtain rfl := sinl H
   exact rt hh
  clear hh h
  rintro h bs ⟨s_3, rfl, hh, rfl⟩
  replace H := sinr H
  repeat apply TW.seq
  refine rk [14] [] (f2 hh c5) ?_
  clear hh h
  intro h hh
  cases H
  exact rt hh
 repeat apply TW.seq
 refine ct (f2 hh c5) ?_
 repeat apply TW.seq
 refine rk [14] [] (f2 hh c5) ?_
 clear hh h
 intro h hh
 cases H
 exact rt hh
def sr22_path_L0 (k : Nat) (n : Net) (l : List Int) : Nat → Int → (List Int) → Nat → Option (Bool ⊕ (List Int × Nat))
 | 0, _, _, _ => none
 | m + 1, k_, l2, n2 => (if k_ < (l.length : Int) then (((if (0 : Int) ≤ k_ ∧ k_ < (l.length : Int) then (if (gx l k_) < 0 then some true else some (decide ((n.links.length : Int) ≤ (gx l k_)))) else none) : Option Bool).bind fun s_2 => (if s_2 = true then some (.inl false) else (if (0 : Int) ≤ k_ ∧ k_ < (l.length : Int) then (if (0 : Int) ≤ (gx l k_) ∧ (gx l k_) < (n.links.length : Int) then (if l2.length = n2 then ((sr22_has k l2 ((gx n.links (gx l k_)).frm)).bind fun rhas => (((if rhas = true then some true else (if 0 < k_ then (if (0 : Int) ≤ (IntKind.i64.wrap (k_ - 1)) ∧ (IntKind.i64.wrap (k_ - 1)) < (l.length : Int) then (if (0 : Int) ≤ (gx l (IntKind.i64.wrap (k_ - 1))) ∧ (gx l (IntKind.i64.wrap (k_ - 1))) < (n.links.length : Int) then some (decide (((gx n.links (gx l (IntKind.i64.wrap (k_ - 1)))).to) ≠ ((gx n.links (gx l k_)).frm))) else none) else none) else some false)) : Option Bool).bind fun s_3 => (if s_3 = true then some (.inl false) else (if (n2 + 1) * 9 ≤ 1000000000 then sr22_path_L0 k n l m (IntKind.i64.wrap (k_ + 1)) (l2 ++ [(gx n.links (gx l k_)).frm]) (n2 + 1) else none)))) else none) else none) else none))) else some (.inr (l2, n2)))
def sr22_path (k : Nat) (n : Net) (from_ : Int) (to_ : Int) (l : List Int) : Option Bool := ((sr22_path_L0 k n l k 0 [] 0 : Option (Bool ⊕ (List Int × Nat))).bind fun o => Sum.elim (fun r => some r) (fun s_ => (if (l.length : Int) = 0 then some false else (if (0 : Int) ≤ 0 ∧ 0 < (l.length : Int) then (if (0 : Int) ≤ (gx l 0) ∧ (gx l 0) < (n.links.length : Int) then (if (0 : Int) ≤ (IntKind.i64.wrap ((l.length : Int) - 1)) ∧ (IntKind.i64.wrap ((l.length : Int) - 1)) < (l.length : Int) then (if (0 : Int) ≤ (gx l (IntKind.i64.wrap ((l.length : Int) - 1))) ∧ (gx l (IntKind.i64.wrap ((l.length : Int) - 1))) < (n.links.length : Int) then (if s_.1.length = s_.2 then ((sr22_has k s_.1 ((gx n.links (gx l (IntKind.i64.wrap ((l.length : Int) - 1)))).to)).bind fun rhas2 => (if ((gx n.links (gx l 0)).frm) = from_ then (if ((gx n.links (gx l (IntKind.i64.wrap ((l.length : Int) - 1)))).to) = to_ then (if rhas2 = true then some (decide (((gx n.links (gx l 0)).frm) = ((gx n.links (gx l (IntKind.i64.wrap ((l.length : Int) - 1)))).to))) else some true) else some (decide (((gx n.links (gx l 0)).frm) = ((gx n.links (gx l (IntKind.i64.wrap ((l.length : Int) - 1)))).to)))) else some (decide (((gx n.links (gx l 0)).frm) = ((gx n.links (gx l (IntKind.i64.wrap ((l.length : Int) - 1)))).to))))) else none) else none) else none) else none) else none))) o)
set_option maxHeartbeats 8000000 in
theorem sr22_path_ok (ax : Axs) (hx : Plain ax) (k : Nat) (n : Net) (from_ : Int) (to_ : Int) (l : List Int) (v : Bool) (H : sr22_path k n from_ to_ l = some v) : Pure Try.prog (EE ax) [] 46 [eNet n, .int .i64 from_, .int .i64 to_, ints l] (.bool v) := by
 rw [sr22_path] at H
 refine en [.tmp 8] 116 [0, 1, 2, 3] (hx.no _ (by decide)) (fn46 ax) ?_
 intro h hh
 repeat apply TW.seq
 refine rk [1, 2, 3, 4] [] hh ?_
 clear hh h
 intro h hh
 repeat apply TW.seq
 refine rk [1, 2, 3, 4, 9] [] hh ?_
 clear hh h
 intro h hh
 refine vk 9 1 [1, 2, 3, 4, 9] hh ?_
 clear hh h
 intro h hh
 repeat apply TW.seq
 refine rk [1, 2, 3, 4, 9, 10] [] hh ?_
 clear hh h
 intro h hh
 obtain ⟨o, H1, H⟩ := bsome H
 repeat apply TW.seq
 refine cu [1, 2, 3, 4, 9] 2 (fun h bs => ∃ s_ : List Int × Nat, o = .inr s_ ∧ (h 1 = .int .i64 from_ ∧ h 2 = .int .i64 to_ ∧ h 3 = ints l ∧ h 4 = .ptr 0 0 3 ∧ h 9 = .arr 1 1 0 s_.2 s_.2 s_.2) ∧ bs = [.cells true 3 [lNodes n.nodes, lLinks n.links, lEdges n.edges], .cells false s_.2 (s_.1.map (T.int .i64))]) ?_ ?_
 ·skip
  repeat apply TW.seq
  apply TW.block
  repeat apply TW.seq
  refine TW.loopT [1, 2, 3, 4, 9, 10] (fun m h bs => ∃ (k_ : Int) (l2 : List Int) (n2 : Nat), sr22_path_L0 k n l m k_ l2 n2 = some o ∧ (h 1 = .int .i64 from_ ∧ h 2 = .int .i64 to_ ∧ h 3 = ints l ∧ h 4 = .ptr 0 0 3 ∧ h 9 = .arr 1 1 0 n2 n2 n2 ∧ h 10 = .int .i64 k_) ∧ bs = [.cells true 3 [lNodes n.nodes, lLinks n.links, lEdges n.edges], .cells false n2 (l2.map (T.int .i64))]) ?_ k _ _ ?_
  rotate_left
  ·exact ⟨0, [], 0, H1, kq hh, rfl⟩
  clear hh h H1
  rintro m h bs ⟨k_, l2, n2, H1, hh, rfl⟩
  rcases m with _ | m
  ·rw [sr22_path_L0] at H1; cases H1
  rw [sr22_path_L0] at H1
  repeat apply TW.seq
  refine rk [1, 2, 3, 4, 9, 10, 19] [] hh ?_
  clear hh h
  intro h hh
  rcases isp H1 with ⟨c1, H1⟩ | ⟨c1, H1⟩
  rotate_left
  ·skip
   repeat apply TW.seq
   refine cf (f2 hh (decide_eq_false c1)) ?_
   refine xk ?_
   cases H1
   exact ce hh ⟨_, rfl, kq hh, rfl⟩
  repeat apply TW.seq
  refine ct (f2 hh (decide_eq_true c1)) ?_
  repeat apply TW.seq
  refine sk ?_
  repeat apply TW.seq
  apply TW.block
  obtain ⟨s_2, H2, H1⟩ := bsome H1
  repeat apply TW.seq
  refine cu [1, 2, 3, 4, 9, 10, 36] 2 (fun h bs => (h 1 = .int .i64 from_ ∧ h 2 = .int .i64 to_ ∧ h 3 = ints l ∧ h 4 = .ptr 0 0 3 ∧ h 9 = .arr 1 1 0 n2 n2 n2 ∧ h 10 = .int .i64 k_ ∧ h 36 = .bool s_2) ∧ bs = [.cells true 3 [lNodes n.nodes, lLinks n.links, lEdges n.edges], .cells false n2 (l2.map (T.int .i64))]) ?_ ?_
  ·skip
   obtain ⟨g2, H2⟩ := isg H2
   rcases isp H2 with ⟨c3, H2⟩ | ⟨c3, H2⟩
   rotate_left
   ·skip
    repeat apply TW.seq
    refine dk 13 [1, 2, 3, 4, 9, 10, 36] [] [] [] (f3 hh (decide_eq_false c3) (gx_some g2)) trivial trivial ?_
    clear hh h
    intro h hh
    cases H2
    exact ce hh ⟨kq hh, rfl⟩
   repeat apply TW.seq
   refine dk 13 [1, 2, 3, 4, 9, 10, 36] [] [] [] (f3 hh (decide_eq_true c3) (gx_some g2)) trivial trivial ?_
   clear hh h
   intro h hh
   cases H2
   exact ce hh ⟨kq hh, rfl⟩
  clear hh h
  rintro h bs ⟨hh, rfl⟩
  rcases isb H1 with ⟨c4, H1⟩ | ⟨c4, H1⟩
  rotate_left
  ·skip
   repeat apply TW.seq
   refine cf (f2 hh c4) ?_
   repeat apply TW.seq
   refine sk ?_
   obtain ⟨g5, H1⟩ := isg H1
   obtain ⟨g6, H1⟩ := isg H1
   repeat apply TW.seq
   refine dk 6 [1, 2, 3, 4, 9, 10, 11] [] [] [] (f3 hh c4 (f2 (gx_some g5) (gx_some g6))) trivial trivial ?_
   clear hh h
   intro h hh
   obtain ⟨g7, H1⟩ := isg H1
   obtain ⟨rhas, e8, H1⟩ := bsome H1
   repeat apply TW.seq
   refine rkc [1, 2, 3, 4, 9, 10, 11, 12] [] [(.bool rhas, stL [.cells true 3 [lNodes n.nodes, lLinks n.links, lEdges n.edges], .cells false n2 (l2.map (T.int .i64)), .cells true 3 [.int .i64 ((gx n.links (gx l k_)).frm), .int .i64 ((gx n.links (gx l k_)).to), .int .i64 ((gx n.links (gx l k_)).cap)]])] (f2 hh c4) ?_ ?_
   ·exact ⟨(by have q := Call0.call (Pure.lend (S := stL [.cells true 3 [lNodes n.nodes, lLinks n.links, lEdges n.edges], .cells false n2 (l2.map (T.int .i64)), .cells true 3 [.int .i64 ((gx n.links (gx l k_)).frm), .int .i64 ((gx n.links (gx l k_)).to), .int .i64 ((gx n.links (gx l k_)).cap)]]) (args := [.arr 1 1 0 n2 n2 n2, .int .i64 ((gx n.links (gx l k_)).frm)]) (sr22_has_ok ax hx k l2 ((gx n.links (gx l k_)).frm) rhas e8 ) (And.intro (lend_map (fun _ => rfl) (by rfl) g7) (And.intro (Or.inl rfl) (trivial))) rfl); (try simp only [c4] at q); exact q), trivial⟩
   clear hh h
   intro h hh
   obtain ⟨s_3, H2, H1⟩ := bsome H1
   repeat apply TW.seq
   refine cu [1, 2, 3, 4, 9, 10, 11, 68] 3 (fun h bs => (h 1 = .int .i64 from_ ∧ h 2 = .int .i64 to_ ∧ h 3 = ints l ∧ h 4 = .ptr 0 0 3 ∧ h 9 = .arr 1 1 0 n2 n2 n2 ∧ h 10 = .int .i64 k_ ∧ h 11 = .ptr 2 0 3 ∧ h 68 = .bool s_3) ∧ bs = [.cells true 3 [lNodes n.nodes, lLinks n.links, lEdges n.edges], .cells false n2 (l2.map (T.int .i64)), .cells true 3 [.int .i64 ((gx n.links (gx l k_)).frm), .int .i64 ((gx n.links (gx l k_)).to), .int .i64 ((gx n.links (gx l k_)).cap)]]) ?_ ?_
   ·skip
    rcases isb H2 with ⟨c9, H2⟩ | ⟨c9, H2⟩
    rotate_left
    ·skip
     rcases isp H2 with ⟨c10, H2⟩ | ⟨c10, H2⟩
     rotate_left
     ·skip
      repeat apply TW.seq
      refine dk 17 [1, 2, 3, 4, 9, 10, 11, 68] [] [] [] (f3 hh c9 (f2 (decide_eq_false c10) c4)) trivial trivial ?_
      clear hh h
      intro h hh
      cases H2
      exact ce hh ⟨kq hh, rfl⟩
     obtain ⟨g11, H2⟩ := isg H2
     obtain ⟨g12, H2⟩ := isg H2
     repeat apply TW.seq
     refine dk 17 [1, 2, 3, 4, 9, 10, 11, 68] [] [] [] (f3 hh c9 (f3 (decide_eq_true c10) c4 (f2 (gx_some g11) (gx_some g12)))) trivial trivial ?_
     clear hh h
     intro h hh
     cases H2
     exact ce hh ⟨kq hh, rfl⟩
    repeat apply TW.seq
    refine dk 17 [1, 2, 3, 4, 9, 10, 11, 68] [] [] [] (f3 hh c9 c4) trivial trivial ?_
    clear hh h
    intro h hh
    cases H2
    exact ce hh ⟨kq hh, rfl⟩
   clear hh h
   rintro h bs ⟨hh, rfl⟩
   rcases isb H1 with ⟨c13, H1⟩ | ⟨c13, H1⟩
   rotate_left
   ·skip
    repeat apply TW.seq
    refine cf (f2 hh c13) ?_
    repeat apply TW.seq
    refine sk ?_
    obtain ⟨g14, H1⟩ := isg H1
    repeat apply TW.seq
    refine rg [] [] [.cells true 3 [lNodes n.nodes, lLinks n.links, lEdges n.edges], .cells false (n2 + 1) ((l2 ++ [(gx n.links (gx l k_)).frm]).map (T.int .i64)), .cells true 3 [.int .i64 ((gx n.links (gx l k_)).frm), .int .i64 ((gx n.links (gx l k_)).to), .int .i64 ((gx n.links (gx l k_)).cap)]] (fun h => h 1 = .int .i64 from_ ∧ h 2 = .int .i64 to_ ∧ h 3 = ints l ∧ h 4 = .ptr 0 0 3 ∧ h 9 = .arr 1 1 0 (n2 + 1) (n2 + 1) (n2 + 1) ∧ h 10 = .int .i64 k_) (f3 hh c4 c13) trivial ?_
    clear hh h
    intro h hh
    repeat apply TW.seq
    refine rk [1, 2, 3, 4, 9, 10] [] (f3 hh c4 c13) ?_
    clear hh h
    intro h hh
    exact rd m hh ⟨(IntKind.i64.wrap (k_ + 1)), (l2 ++ [(gx n.links (gx l k_)).frm]), (n2 + 1), H1, kq hh, rfl⟩
   repeat apply TW.seq
   refine ct (f2 hh c13) ?_
   repeat apply TW.seq
   refine rk [8] [] (f3 hh c4 c13) ?_
   clear hh h
   intro h hh
   cases H1
   obtain rfl := sinl H
   exact rt hh
  repeat apply TW.seq
  refine ct (f2 hh c4) ?_
  repeat apply TW.seq
  refine rk [8] [] (f2 hh c4) ?_
  clear hh h
  intro h hh
  cases H1
  obtain rfl := sinl H
  exact rt hh
 clear hh h
 rintro h bs ⟨s_, rfl, hh, rfl⟩
 replace H := sinr H
 repeat apply TW.seq
 refine rk [1, 2, 3, 4, 9, 76] [] hh ?_
 clear hh h
 intro h hh
 rcases isp H with ⟨c15, H⟩ | ⟨c15, H⟩
 rotate_left
 ·skip
  repeat apply TW.seq
  refine cf (f2 hh (decide_eq_false c15)) ?_
  repeat apply TW.seq
  refine sk ?_
  obtain ⟨g16, H⟩ := isg H
  obtain ⟨g17, H⟩ := isg H
  repeat apply TW.seq
  refine dk 5 [1, 2, 3, 4, 9, 13] [] [] [] (f3 hh (gx_some g16) (gx_some g17)) trivial trivial ?_
  clear hh h
  intro h hh
  obtain ⟨g18, H⟩ := isg H
  obtain ⟨g19, H⟩ := isg H
  repeat apply TW.seq
  refine dk 8 [1, 2, 9, 13, 14] [] [] [] (f3 hh (gx_some g18) (gx_some g19)) trivial trivial ?_
  clear hh h
  intro h hh
  obtain ⟨g20, H⟩ := isg H
  obtain ⟨rhas2, e21, H⟩ := bsome H
  repeat apply TW.seq
  refine rkc [1, 2, 13, 14, 15] [] [(.bool rhas2, stL [.cells true 3 [lNodes n.nodes, lLinks n.links, lEdges n.edges], .cells false s_.2 (s_.1.map (T.int .i64))])] hh ?_ ?_
  ·exact ⟨(by have q := Call0.call (Pure.lend (S := stL [.cells true 3 [lNodes n.nodes, lLinks n.links, lEdges n.edges], .cells false s_.2 (s_.1.map (T.int .i64))]) (args := [.arr 1 1 0 s_.2 s_.2 s_.2, .int .i64 ((gx n.links (gx l (IntKind.i64.wrap ((l.length : Int) - 1)))).to)]) (sr22_has_ok ax hx k s_.1 ((gx n.links (gx l (IntKind.i64.wrap ((l.length : Int) - 1)))).to) rhas2 e21 ) (And.intro (lend_map (fun _ => rfl) (by rfl) g20) (And.intro (Or.inl rfl) (trivial))) rfl); exact q), trivial⟩
  clear hh h
  intro h hh
  rcases isp H with ⟨c22, H⟩ | ⟨c22, H⟩
  rotate_left
  ·skip
   repeat apply TW.seq
   refine rk [8] [] (f2 hh (decide_eq_false c22)) ?_
   clear hh h
   intro h hh
   cases H
   exact rt hh
  rcases isp H with ⟨c23, H⟩ | ⟨c23, H⟩
  rotate_left
  ·skip
   repeat apply TW.seq
   refine rk [8] [] (f3 hh (decide_eq_true c22) (decide_eq_false c23)) ?_
   clear hh h
   intro h hh
   cases H
   exact rt hh
  rcases isb H with ⟨c24, H⟩ | ⟨c24, H⟩
  rotate_left
  ·skip
   repeat apply TW.seq
   refine rk [8] [] (f3 hh (decide_eq_true c22) (f2 (decide_eq_true c23) c24)) ?_
   clear hh h
   intro h hh
   cases H
   exact rt hh
  repeat apply TW.seq
  refine rk [8] [] (f3 hh (decide_eq_true c22) (f2 (decide_eq_true c23) c24)) ?_
  clear hh h
  intro h hh
  cases H
  exact rt hh
 repeat apply TW.seq
 refine ct (f2 hh (decide_eq_true c15)) ?_
 repeat apply TW.seq
 refine rk [8] [] hh ?_
 clear hh h
 intro h hh
 cases H
 exact rt hh
def sr22_Strands_L1 (k : Nat) (l : List Strand) (s_ : List Int × Nat) (k_ : Int) : Nat → Int → (List Int) → Option (Bool ⊕ (List Int))
 | 0, _, _ => none
 | m + 1, i, l3 => (if i < (((gx l k_).links).length : Int) then (if (0 : Int) ≤ i ∧ i < (((gx l k_).links).length : Int) then (if (0 : Int) ≤ (gx ((gx l k_).links) i) ∧ (gx ((gx l k_).links) i) < (s_.2 : Int) then (if (gx ((gx l k_).links) i).toNat < l3.length then (if (l3.getD (gx ((gx l k_).links) i).toNat default) < ((gx l k_).amount) then some (.inl false) else sr22_Strands_L1 k l s_ k_ m (IntKind.i64.wrap (i + 1)) (l3.set (gx ((gx l k_).links) i).toNat (IntKind.i64.wrap ((l3.getD (gx ((gx l k_).links) i).toNat default) - ((gx l k_).amount))))) else none) else none) else none) else some (.inr l3))
def sr22_Strands_L0 (k : Nat) (n : Net) (from_ : Int) (to_ : Int) (l : List Strand) (s_ : List Int × Nat) : Nat → Int → (List Int) → Option (Bool ⊕ (List Int))
 | 0, _, _ => none
 | m + 1, k_, l2 => (if k_ < (l.length : Int) then (((if (0 : Int) ≤ k_ ∧ k_ < (l.length : Int) then ((sr22_path k n from_ to_ ((gx l k_).links)).bind fun rpath => (((if rpath = true then some (decide (((gx l k_).amount) < 1)) else some true) : Option Bool).bind fun s_4 => (if s_4 = true then some (.inl false) else ((sr22_Strands_L1 k l s_ k_ k 0 l2 : Option (Bool ⊕ (List Int))).bind fun o => Sum.elim (fun r => some (.inl r)) (fun s_5 => some (.inr s_5)) o)))) else none) : Option (Bool ⊕ (List Int))).bind fun o2 => Sum.elim (fun r => some (.inl r)) (fun s_3 => sr22_Strands_L0 k n from_ to_ l s_ m (IntKind.i64.wrap (k_ + 1)) s_3) o2) else some (.inr l2))
def sr22_Strands_L2 (k : Nat) (s_ : List Int × Nat) (s_2 : List Int) : Nat → Int → Option (Bool ⊕ Unit)
 | 0, _ => none
 | m + 1, k_2 => (if k_2 < (s_.2 : Int) then (if (0 : Int) ≤ k_2 ∧ k_2 < (s_.2 : Int) then (if k_2.toNat < s_2.length then (if (s_2.getD k_2.toNat default) ≠ 0 then some (.inl false) else sr22_Strands_L2 k s_ s_2 m (IntKind.i64.wrap (k_2 + 1))) else none) else none) else some (.inr ()))
def sr22_Strands (k : Nat) (n : Net) (from_ : Int) (to_ : Int) (flow : List Int) (l : List Strand) : Option Bool := (((if (0 + flow.length) * 9 ≤ 1000000000 then (if flow.length = 0 then some ([], 0) else some (flow, flow.length)) else none) : Option (List Int × Nat)).bind fun s_ => ((sr22_Strands_L0 k n from_ to_ l s_ k 0 s_.1 : Option (Bool ⊕ (List Int))).bind fun o4 => Sum.elim (fun r => some r) (fun s_2 => ((sr22_Strands_L2 k s_ s_2 k 0 : Option (Bool ⊕ Unit)).bind fun o3 => Sum.elim (fun r => some r) (fun s_6 => some (decide ((l.length : Int) ≤ (n.links.length : Int)))) o3)) o4))
set_option maxHeartbeats 8000000 in
theorem sr22_Strands_ok (ax : Axs) (hx : Plain ax) (k : Nat) (n : Net) (from_ : Int) (to_ : Int) (flow : List Int) (l : List Strand) (v : Bool) (H : sr22_Strands k n from_ to_ flow l = some v) : Pure Try.prog (EE ax) [] 24 [eNet n, .int .i64 from_, .int .i64 to_, ints flow, lStrands l] (.bool v) := by
 rw [sr22_Strands] at H
 refine en [.tmp 10] 115 [0, 1, 2, 3, 4] (hx.no _ (by decide)) (fn24 ax) ?_
 intro h hh
 repeat apply TW.seq
 refine rk [1, 2, 3, 4, 5] [] hh ?_
 clear hh h
 intro h hh
 obtain ⟨s_, H1, H⟩ := bsome H
 repeat apply TW.seq
 refine cu [1, 2, 4, 5, 11] 2 (fun h bs => ∃ z1, (h 1 = .int .i64 from_ ∧ h 2 = .int .i64 to_ ∧ h 4 = lStrands l ∧ h 5 = .ptr 0 0 3 ∧ h 11 = .arr 1 1 0 s_.2 s_.2 s_.2) ∧ bs = [.cells true 3 [lNodes n.nodes, lLinks n.links, lEdges n.edges], .cells z1 s_.2 (s_.1.map (T.int .i64))]) ?_ ?_
 ·skip
  obtain ⟨g2, H1⟩ := isg H1
  rcases isp H1 with ⟨c3, H1⟩ | ⟨c3, H1⟩
  rotate_left
  ·skip
   repeat apply TW.seq
   refine rg [16] [] [.cells true 3 [lNodes n.nodes, lLinks n.links, lEdges n.edges], .cells false flow.length (flow.map (T.int .i64))] (fun h => h 1 = .int .i64 from_ ∧ h 2 = .int .i64 to_ ∧ h 4 = lStrands l ∧ h 5 = .ptr 0 0 3 ∧ h 11 = .arr 1 1 0 flow.length flow.length flow.length) hh trivial ?_
   clear hh h
   intro h hh
   cases H1
   exact ce hh ⟨_, kq hh, rfl⟩
  repeat apply TW.seq
  refine rg [16] [] [.cells true 3 [lNodes n.nodes, lLinks n.links, lEdges n.edges], .cells true 0 ([].map (T.int .i64))] (fun h => h 1 = .int .i64 from_ ∧ h 2 = .int .i64 to_ ∧ h 4 = lStrands l ∧ h 5 = .ptr 0 0 3 ∧ h 11 = .arr 1 1 0 0 0 0) (f2 hh c3) trivial ?_
  clear hh h
  intro h hh
  cases H1
  exact ce hh ⟨_, kq hh, rfl⟩
 clear hh h
 rintro h bs ⟨z1, hh, rfl⟩
 refine uz 1 ?_
 repeat apply TW.seq
 refine rk [1, 2, 4, 5, 11, 12] [] hh ?_
 clear hh h
 intro h hh
 obtain ⟨o4, H1, H⟩ := bsome H
 repeat apply TW.seq
 refine cu [4, 5, 11] 2 (fun h bs => ∃ s_2 : List Int, o4 = .inr s_2 ∧ (h 4 = lStrands l ∧ h 5 = .ptr 0 0 3 ∧ h 11 = .arr 1 1 0 s_.2 s_.2 s_.2) ∧ bs = [.cells true 3 [lNodes n.nodes, lLinks n.links, lEdges n.edges], .cells false s_.2 (s_2.map (T.int .i64))]) ?_ ?_
 ·skip
  repeat apply TW.seq
  apply TW.block
  repeat apply TW.seq
  refine TW.loopT [1, 2, 4, 5, 11, 12] (fun m h bs => ∃ (k_ : Int) (l2 : List Int), sr22_Strands_L0 k n from_ to_ l s_ m k_ l2 = some o4 ∧ (h 1 = .int .i64 from_ ∧ h 2 = .int .i64 to_ ∧ h 4 = lStrands l ∧ h 5 = .ptr 0 0 3 ∧ h 11 = .arr 1 1 0 s_.2 s_.2 s_.2 ∧ h 12 = .int .i64 k_) ∧ bs = [.cells true 3 [lNodes n.nodes, lLinks n.links, lEdges n.edges], .cells false s_.2 (l2.map (T.int .i64))]) ?_ k _ _ ?_
  rotate_left
  ·exact ⟨0, s_.1, H1, kq hh, rfl⟩
  clear hh h H1
  rintro m h bs ⟨k_, l2, H1, hh, rfl⟩
  rcases m with _ | m
  ·rw [sr22_Strands_L0] at H1; cases H1
  rw [sr22_Strands_L0] at H1
  repeat apply TW.seq
  refine rk [1, 2, 4, 5, 11, 12, 22] [] hh ?_
  clear hh h
  intro h hh
  rcases isp H1 with ⟨c4, H1⟩ | ⟨c4, H1⟩
  rotate_left
  ·skip
   repeat apply TW.seq
   refine cf (f2 hh (decide_eq_false c4)) ?_
   refine xk ?_
   cases H1
   exact ce hh ⟨_, rfl, kq hh, rfl⟩
  repeat apply TW.seq
  refine ct (f2 hh (decide_eq_true c4)) ?_
  repeat apply TW.seq
  refine sk ?_
  obtain ⟨o2, H2, H1⟩ := bsome H1
  repeat apply TW.seq
  refine cu [1, 2, 4, 5, 11, 12] 2 (fun h bs => ∃ s_3 : List Int, o2 = .inr s_3 ∧ (h 1 = .int .i64 from_ ∧ h 2 = .int .i64 to_ ∧ h 4 = lStrands l ∧ h 5 = .ptr 0 0 3 ∧ h 11 = .arr 1 1 0 s_.2 s_.2 s_.2 ∧ h 12 = .int .i64 k_) ∧ bs = [.cells true 3 [lNodes n.nodes, lLinks n.links, lEdges n.edges], .cells false s_.2 (s_3.map (T.int .i64))]) ?_ ?_
  ·skip
   repeat apply TW.seq
   apply TW.block
   obtain ⟨g5, H2⟩ := isg H2
   obtain ⟨rpath, e6, H2⟩ := bsome H2
   repeat apply TW.seq
   refine dk 8 [1, 2, 4, 5, 11, 12, 13] [] [] [(.bool rpath, stL [.cells true 3 [lNodes n.nodes, lLinks n.links, lEdges n.edges], .cells false s_.2 (l2.map (T.int .i64))])] (f2 hh (gx_some g5)) trivial ?_ ?_
   ·exact ⟨Call0.call ((sr22_path_ok ax hx k n from_ to_ ((gx l k_).links) rpath e6 ).call _), trivial⟩
   clear hh h
   intro h hh
   obtain ⟨s_4, H3, H2⟩ := bsome H2
   repeat apply TW.seq
   refine cu [1, 2, 4, 5, 11, 12, 43] 2 (fun h bs => (h 1 = .int .i64 from_ ∧ h 2 = .int .i64 to_ ∧ h 4 = lStrands l ∧ h 5 = .ptr 0 0 3 ∧ h 11 = .arr 1 1 0 s_.2 s_.2 s_.2 ∧ h 12 = .int .i64 k_ ∧ h 43 = .bool s_4) ∧ bs = [.cells true 3 [lNodes n.nodes, lLinks n.links, lEdges n.edges], .cells false s_.2 (l2.map (T.int .i64))]) ?_ ?_
   ·skip
    rcases isb H3 with ⟨c7, H3⟩ | ⟨c7, H3⟩
    rotate_left
    ·skip
     repeat apply TW.seq
     refine rk [1, 2, 4, 5, 11, 12, 43] [] (f2 hh c7) ?_
     clear hh h
     intro h hh
     cases H3
     exact ce hh ⟨kq hh, rfl⟩
    repeat apply TW.seq
    refine rk [1, 2, 4, 5, 11, 12, 43] [] (f3 hh c7 (gx_some g5)) ?_
    clear hh h
    intro h hh
    cases H3
    exact ce hh ⟨kq hh, rfl⟩
   clear hh h
   rintro h bs ⟨hh, rfl⟩
   rcases isb H2 with ⟨c8, H2⟩ | ⟨c8, H2⟩
   rotate_left
   ·skip
    repeat apply TW.seq
    refine cf (f2 hh c8) ?_
    repeat apply TW.seq
    refine sk ?_
    repeat apply TW.seq
    refine rk [1, 2, 4, 5, 11, 12, 14] [] (f2 hh c8) ?_
    clear hh h
    intro h hh
    obtain ⟨o, H3, H2⟩ := bsome H2
    repeat apply TW.seq
    refine cu [1, 2, 4, 5, 11, 12] 2 (fun h bs => ∃ s_5 : List Int, o = .inr s_5 ∧ (h 1 = .int .i64 from_ ∧ h 2 = .int .i64 to_ ∧ h 4 = lStrands l ∧ h 5 = .ptr 0 0 3 ∧ h 11 = .arr 1 1 0 s_.2 s_.2 s_.2 ∧ h 12 = .int .i64 k_) ∧ bs = [.cells true 3 [lNodes n.nodes, lLinks n.links, lEdges n.edges], .cells false s_.2 (s_5.map (T.int .i64))]) ?_ ?_
    ·skip
     repeat apply TW.seq
     apply TW.block
     repeat apply TW.seq
     refine TW.loopT [1, 2, 4, 5, 11, 12, 14] (fun m h bs => ∃ (i : Int) (l3 : List Int), sr22_Strands_L1 k l s_ k_ m i l3 = some o ∧ (h 1 = .int .i64 from_ ∧ h 2 = .int .i64 to_ ∧ h 4 = lStrands l ∧ h 5 = .ptr 0 0 3 ∧ h 11 = .arr 1 1 0 s_.2 s_.2 s_.2 ∧ h 12 = .int .i64 k_ ∧ h 14 = .int .i64 i) ∧ bs = [.cells true 3 [lNodes n.nodes, lLinks n.links, lEdges n.edges], .cells false s_.2 (l3.map (T.int .i64))]) ?_ k _ _ ?_
     rotate_left
     ·exact ⟨0, l2, H3, kq hh, rfl⟩
     clear hh h H3
     rintro m h bs ⟨i, l3, H3, hh, rfl⟩
     rcases m with _ | m
     ·rw [sr22_Strands_L1] at H3; cases H3
     rw [sr22_Strands_L1] at H3
     repeat apply TW.seq
     refine rk [1, 2, 4, 5, 11, 12, 14, 51] [] (f3 hh c8 (gx_some g5)) ?_
     clear hh h
     intro h hh
     rcases isp H3 with ⟨c9, H3⟩ | ⟨c9, H3⟩
     rotate_left
     ·skip
      repeat apply TW.seq
      refine cf (f2 hh (decide_eq_false c9)) ?_
      refine xk ?_
      cases H3
      exact ce hh ⟨_, rfl, kq hh, rfl⟩
     repeat apply TW.seq
     refine ct (f2 hh (decide_eq_true c9)) ?_
     repeat apply TW.seq
     refine sk ?_
     repeat apply TW.seq
     apply TW.block
     obtain ⟨g10, H3⟩ := isg H3
     obtain ⟨g11, H3⟩ := isg H3
     obtain ⟨g12, H3⟩ := isg H3
     repeat apply TW.seq
     refine dk 16 [1, 2, 4, 5, 11, 12, 14, 70] [] [] [] (f3 hh c8 (f3 (gx_some g5) (gx_some g10) (get_some g12))) trivial trivial ?_
     clear hh h
     intro h hh
     rcases isp H3 with ⟨c13, H3⟩ | ⟨c13, H3⟩
     rotate_left
     ·skip
      repeat apply TW.seq
      refine cf (f2 hh (decide_eq_false c13)) ?_
      repeat apply TW.seq
      refine sk ?_
      repeat apply TW.seq
      refine dk 25 [1, 2, 4, 5, 11, 12, 14] [] [] [] (f3 hh c8 (f3 (gx_some g5) (gx_some g10) (f2 (get_some g12) (fun f v => @spl_map _ _ f _ v g12)))) trivial trivial ?_
      clear hh h
      intro h hh
      repeat apply TW.seq
      refine rk [1, 2, 4, 5, 11, 12, 14] [] (f2 hh c8) ?_
      clear hh h
      intro h hh
      exact rd m hh ⟨(IntKind.i64.wrap (i + 1)), (l3.set (gx ((gx l k_).links) i).toNat (IntKind.i64.wrap ((l3.getD (gx ((gx l k_).links) i).toNat default) - ((gx l k_).amount)))), H3, kq hh, rfl⟩
     repeat apply TW.seq
     refine ct (f2 hh (decide_eq_true c13)) ?_
     repeat apply TW.seq
     refine rk [10] [] (f2 hh c8) ?_
     clear hh h
     intro h hh
     cases H3
     obtain rfl := sinm H2
     obtain rfl := sinm H1
     obtain rfl := sinl H
     exact rt hh
    clear hh h
    rintro h bs ⟨s_5, rfl, hh, rfl⟩
    replace H2 := sinr H2
    cases H2
    exact ce hh ⟨_, rfl, kq hh, rfl⟩
   repeat apply TW.seq
   refine ct (f2 hh c8) ?_
   repeat apply TW.seq
   refine rk [10] [] (f2 hh c8) ?_
   clear hh h
   intro h hh
   cases H2
   obtain rfl := sinm H1
   obtain rfl := sinl H
   exact rt hh
  clear hh h
  rintro h bs ⟨s_3, rfl, hh, rfl⟩
  replace H1 := sinr H1
  repeat apply TW.seq
  refine rk [1, 2, 4, 5, 11, 12] [] hh ?_
  clear hh h
  intro h hh
  exact rd m hh ⟨(IntKind.i64.wrap (k_ + 1)), s_3, H1, kq hh, rfl⟩
 clear hh h
 rintro h bs ⟨s_2, rfl, hh, rfl⟩
 replace H := sinr H
 repeat apply TW.seq
 refine rk [4, 5, 11, 15] [] hh ?_
 clear hh h
 intro h hh
 obtain ⟨o3, H1, H⟩ := bsome H
 repeat apply TW.seq
 refine cu [4, 5] 2 (fun h bs => ∃ s_6 : Unit, o3 = .inr s_6 ∧ (h 4 = lStrands l ∧ h 5 = .ptr 0 0 3) ∧ bs = [.cells true 3 [lNodes n.nodes, lLinks n.links, lEdges n.edges], .cells false s_.2 (s_2.map (T.int .i64))]) ?_ ?_
 ·skip
  repeat apply TW.seq
  apply TW.block
  repeat apply TW.seq
  refine TW.loopT [4, 5, 11, 15] (fun m h bs => ∃ (k_2 : Int), sr22_Strands_L2 k s_ s_2 m k_2 = some o3 ∧ (h 4 = lStrands l ∧ h 5 = .ptr 0 0 3 ∧ h 11 = .arr 1 1 0 s_.2 s_.2 s_.2 ∧ h 15 = .int .i64 k_2) ∧ bs = [.cells true 3 [lNodes n.nodes, lLinks n.links, lEdges n.edges], .cells false s_.2 (s_2.map (T.int .i64))]) ?_ k _ _ ?_
  rotate_left
  ·exact ⟨0, H1, kq hh, rfl⟩
  clear hh h H1
  rintro m h bs ⟨k_2, H1, hh, rfl⟩
  rcases m with _ | m
  ·rw [sr22_Strands_L2] at H1; cases H1
  rw [sr22_Strands_L2] at H1
  repeat apply TW.seq
  refine rk [4, 5, 11, 15, 101] [] hh ?_
  clear hh h
  intro h hh
  rcases isp H1 with ⟨c14, H1⟩ | ⟨c14, H1⟩
  rotate_left
  ·skip
   repeat apply TW.seq
   refine cf (f2 hh (decide_eq_false c14)) ?_
   refine xk ?_
   cases H1
   exact ce hh ⟨_, rfl, kq hh, rfl⟩
  repeat apply TW.seq
  refine ct (f2 hh (decide_eq_true c14)) ?_
  repeat apply TW.seq
  refine sk ?_
  repeat apply TW.seq
  apply TW.block
  obtain ⟨g15, H1⟩ := isg H1
  obtain ⟨g16, H1⟩ := isg H1
  repeat apply TW.seq
  refine rk [4, 5, 11, 15, 108] [] (f2 hh (get_some g16)) ?_
  clear hh h
  intro h hh
  rcases isp H1 with ⟨c17, H1⟩ | ⟨c17, H1⟩
  rotate_left
  ·skip
   repeat apply TW.seq
   refine cf (f2 hh (decide_eq_false c17)) ?_
   repeat apply TW.seq
   refine sk ?_
   repeat apply TW.seq
   refine rk [4, 5, 11, 15] [] hh ?_
   clear hh h
   intro h hh
   exact rd m hh ⟨(IntKind.i64.wrap (k_2 + 1)), H1, kq hh, rfl⟩
  repeat apply TW.seq
  refine ct (f2 hh (decide_eq_true c17)) ?_
  repeat apply TW.seq
  refine rk [10] [] hh ?_
  clear hh h
  intro h hh
  cases H1
  obtain rfl := sinl H
  exact rt hh
 clear hh h
 rintro h bs ⟨s_6, rfl, hh, rfl⟩
 replace H := sinr H
 repeat apply TW.seq
 refine rk [10] [] hh ?_
 clear hh h
 intro h hh
 cases H
 exact rt hh
def sr09_SameInts_L0 (k : Nat) (a : List Int) (b : List Int) : Nat → Int → Option (Bool ⊕ Unit)
 | 0, _ => none
 | m + 1, i => (if i < (a.length : Int) then (if (0 : Int) ≤ i ∧ i < (a.length : Int) then (if (0 : Int) ≤ i ∧ i < (b.length : Int) then (if (gx a i) ≠ (gx b i) then some (.inl false) else sr09_SameInts_L0 k a b m (IntKind.i64.wrap (i + 1))) else none) else none) else some (.inr ()))
def sr09_SameInts (k : Nat) (a : List Int) (b : List Int) : Option Bool := (if (a.length : Int) ≠ (b.length : Int) then some false else ((sr09_SameInts_L0 k a b k 0 : Option (Bool ⊕ Unit)).bind fun o => Sum.elim (fun r => some r) (fun s_ => some true) o))
set_option maxHeartbeats 8000000 in
theorem sr09_SameInts_ok (ax : Axs) (hx : Plain ax) (k : Nat) (a : List Int) (b : List Int) (v : Bool) (H : sr09_SameInts k a b = some v) : Pure Try.prog (EE ax) [] 27 [ints a, ints b] (.bool v) := by
 rw [sr09_SameInts] at H
 refine en [.tmp 4] 26 [0, 1] (hx.no _ (by decide)) (fn27 ax) ?_
 intro h hh
 repeat apply TW.seq
 refine rk [0, 1] [] hh ?_
 clear hh h
 intro h hh
 repeat apply TW.seq
 refine rk [0, 1, 10] [] hh ?_
 clear hh h
 intro h hh
 rcases isp H with ⟨c1, H⟩ | ⟨c1, H⟩
 rotate_left
 ·skip
  repeat apply TW.seq
  refine cf (f2 hh (decide_eq_false c1)) ?_
  repeat apply TW.seq
  refine sk ?_
  repeat apply TW.seq
  refine rk [0, 1, 5] [] hh ?_
  clear hh h
  intro h hh
  obtain ⟨o, H1, H⟩ := bsome H
  repeat apply TW.seq
  refine cu [] 0 (fun h bs => ∃ s_ : Unit, o = .inr s_ ∧ (True) ∧ bs = []) ?_ ?_
  ·skip
   repeat apply TW.seq
   apply TW.block
   repeat apply TW.seq
   refine TW.loopT [0, 1, 5] (fun m h bs => ∃ (i : Int), sr09_SameInts_L0 k a b m i = some o ∧ (h 0 = ints a ∧ h 1 = ints b ∧ h 5 = .int .i64 i) ∧ bs = []) ?_ k _ _ ?_
   rotate_left
   ·exact ⟨0, H1, kq hh, rfl⟩
   clear hh h H1
   rintro m h bs ⟨i, H1, hh, rfl⟩
   rcases m with _ | m
   ·rw [sr09_SameInts_L0] at H1; cases H1
   rw [sr09_SameInts_L0] at H1
   repeat apply TW.seq
   refine rk [0, 1, 5, 14] [] hh ?_
   clear hh h
   intro h hh
   rcases isp H1 with ⟨c2, H1⟩ | ⟨c2, H1⟩
   rotate_left
   ·skip
    repeat apply TW.seq
    refine cf (f2 hh (decide_eq_false c2)) ?_
    refine xk ?_
    cases H1
    exact ce hh ⟨_, rfl, kq hh, rfl⟩
   repeat apply TW.seq
   refine ct (f2 hh (decide_eq_true c2)) ?_
   repeat apply TW.seq
   refine sk ?_
   repeat apply TW.seq
   apply TW.block
   obtain ⟨g3, H1⟩ := isg H1
   obtain ⟨g4, H1⟩ := isg H1
   repeat apply TW.seq
   refine dk 8 [0, 1, 5, 25] [] [] [] (f3 hh (gx_some g3) (gx_some g4)) trivial trivial ?_
   clear hh h
   intro h hh
   rcases isp H1 with ⟨c5, H1⟩ | ⟨c5, H1⟩
   rotate_left
   ·skip
    repeat apply TW.seq
    refine cf (f2 hh (decide_eq_false c5)) ?_
    repeat apply TW.seq
    refine sk ?_
    repeat apply TW.seq
    refine rk [0, 1, 5] [] hh ?_
    clear hh h
    intro h hh
    exact rd m hh ⟨(IntKind.i64.wrap (i + 1)), H1, kq hh, rfl⟩
   repeat apply TW.seq
   refine ct (f2 hh (decide_eq_true c5)) ?_
   repeat apply TW.seq
   refine rk [4] [] hh ?_
   clear hh h
   intro h hh
   cases H1
   obtain rfl := sinl H
   exact rt hh
  clear hh h
  rintro h bs ⟨s_, rfl, hh, rfl⟩
  replace H := sinr H
  repeat apply TW.seq
  refine rk [4] [] hh ?_
  clear hh h
  intro h hh
  cases H
  exact rt hh
 repeat apply TW.seq
 refine ct (f2 hh (decide_eq_true c1)) ?_
 repeat apply TW.seq
 refine rk [4] [] hh ?_
 clear hh h
 intro h hh
 cases H
 exact rt hh
end Go.Proofs.Ytfalnphlgfoflaa