/- Functions as plain functions, and that the code computes them. -/
import Derived.Test.YtfalnphlgfoflaaSA
namespace Go.Proofs.Ytfalnphlgfoflaa
open Go Go.RowKit
set_option linter.unusedSimpArgs false
set_option linter.unusedVariables false
set_option linter.unusedSectionVars false
set_option maxRecDepth 100000
def sflow_isNode (k : Nat) (n : Net) (k_ : Int) : Option Bool := (if 0 ≤ k_ then some (decide (k_ < (n.nodes.length : Int))) else some false)
set_option maxHeartbeats 8000000 in
theorem sflow_isNode_ok (ax : Axs) (hx : Plain ax) (k : Nat) (n : Net) (k_ : Int) (v : Bool) (H : sflow_isNode k n k_ = some v) : Pure Try.prog (EE ax) [] 39 [eNet n, .int .i64 k_] (.bool v) := by
 rw [sflow_isNode] at H
 refine en [.tmp 4] 14 [0, 1] (hx.no _ (by decide)) (fn39 ax) ?_
 intro h hh
 repeat apply TW.seq
 refine rk [1, 2] [] hh ?_
 clear hh h
 intro h hh
 rcases isp H with ⟨c1, H⟩ | ⟨c1, H⟩
 rotate_left
 ·skip
  repeat apply TW.seq
  refine rk [4] [] (f2 hh (decide_eq_false c1)) ?_
  clear hh h
  intro h hh
  cases H
  exact rt hh
 repeat apply TW.seq
 refine rk [4] [] (f2 hh (decide_eq_true c1)) ?_
 clear hh h
 intro h hh
 cases H
 exact rt hh
def sflow_Cost_L0 (k : Nat) (prices : List Int) (flow : List Int) : Nat → Int → Int → Option Int
 | 0, _, _ => none
 | m + 1, total, i => (if i < (prices.length : Int) then (if (0 : Int) ≤ i ∧ i < (prices.length : Int) then (if (0 : Int) ≤ i ∧ i < (flow.length : Int) then sflow_Cost_L0 k prices flow m (IntKind.i64.wrap (total + (IntKind.i64.wrap ((gx prices i) * (gx flow i))))) (IntKind.i64.wrap (i + 1)) else none) else none) else some total)
def sflow_Cost (k : Nat) (prices : List Int) (flow : List Int) : Option Int := ((sflow_Cost_L0 k prices flow k 0 0 : Option Int).bind fun s_ => some s_)
set_option maxHeartbeats 8000000 in
theorem sflow_Cost_ok (ax : Axs) (hx : Plain ax) (k : Nat) (prices : List Int) (flow : List Int) (v : Int) (H : sflow_Cost k prices flow = some v) : Pure Try.prog (EE ax) [] 21 [ints prices, ints flow] (.int .i64 v) := by
 rw [sflow_Cost] at H
 refine en [.tmp 4] 25 [0, 1] (hx.no _ (by decide)) (fn21 ax) ?_
 intro h hh
 repeat apply TW.seq
 refine rk [0, 1] [] hh ?_
 clear hh h
 intro h hh
 repeat apply TW.seq
 refine rk [0, 1, 5] [] hh ?_
 clear hh h
 intro h hh
 repeat apply TW.seq
 refine rk [1, 5, 8, 9, 10] [] hh ?_
 clear hh h
 intro h hh
 obtain ⟨s_, H1, H⟩ := bsome H
 repeat apply TW.seq
 refine cu [5] 0 (fun h bs => (h 5 = .int .i64 s_) ∧ bs = []) ?_ ?_
 ·skip
  repeat apply TW.seq
  apply TW.block
  repeat apply TW.seq
  refine TW.loopT [1, 5, 8, 9, 10] (fun m h bs => ∃ (total : Int) (i : Int), sflow_Cost_L0 k prices flow m total i = some s_ ∧ (h 1 = ints flow ∧ h 5 = .int .i64 total ∧ h 8 = ints prices ∧ h 9 = .int .i64 (prices.length : Int) ∧ h 10 = .int .i64 i) ∧ bs = []) ?_ k _ _ ?_
  rotate_left
  ·exact ⟨0, 0, H1, kq hh, rfl⟩
  clear hh h H1
  rintro m h bs ⟨total, i, H1, hh, rfl⟩
  rcases m with _ | m
  ·rw [sflow_Cost_L0] at H1; cases H1
  rw [sflow_Cost_L0] at H1
  repeat apply TW.seq
  refine rk [1, 5, 8, 9, 10, 11] [] hh ?_
  clear hh h
  intro h hh
  rcases isp H1 with ⟨c1, H1⟩ | ⟨c1, H1⟩
  rotate_left
  ·skip
   repeat apply TW.seq
   refine cf (f2 hh (decide_eq_false c1)) ?_
   refine xk ?_
   cases H1
   exact ce hh ⟨kq hh, rfl⟩
  repeat apply TW.seq
  refine ct (f2 hh (decide_eq_true c1)) ?_
  repeat apply TW.seq
  refine sk ?_
  repeat apply TW.seq
  apply TW.block
  obtain ⟨g2, H1⟩ := isg H1
  repeat apply TW.seq
  refine rk [1, 5, 6, 7, 8, 9, 10] [] (f2 hh (gx_some g2)) ?_
  clear hh h
  intro h hh
  obtain ⟨g3, H1⟩ := isg H1
  repeat apply TW.seq
  refine rk [1, 5, 8, 9, 10] [] (f2 hh (gx_some g3)) ?_
  clear hh h
  intro h hh
  repeat apply TW.seq
  refine rk [1, 5, 8, 9, 10] [] hh ?_
  clear hh h
  intro h hh
  exact rd m hh ⟨(IntKind.i64.wrap (total + (IntKind.i64.wrap ((gx prices i) * (gx flow i))))), (IntKind.i64.wrap (i + 1)), H1, kq hh, rfl⟩
 clear hh h
 rintro h bs ⟨hh, rfl⟩
 repeat apply TW.seq
 refine rk [4] [] hh ?_
 clear hh h
 intro h hh
 cases H
 exact rt hh
def sflow_Check_1 (k : Nat) (x : Int) : Option Bool := some (decide (x ≠ 0))
set_option maxHeartbeats 8000000 in
theorem sflow_Check_1_ok (ax : Axs) (hx : Plain ax) (k : Nat) (x : Int) (v : Bool) (H : sflow_Check_1 k x = some v) : Pure Try.prog (EE ax) [] 37 [.int .i64 x] (.bool v) := by
 rw [sflow_Check_1] at H
 refine en [.tmp 2] 5 [0] (hx.no _ (by decide)) (fn37 ax) ?_
 intro h hh
 repeat apply TW.seq
 refine rk [0] [] hh ?_
 clear hh h
 intro h hh
 repeat apply TW.seq
 refine rk [2] [] hh ?_
 clear hh h
 intro h hh
 cases H
 exact rt hh
def sflow_bounded_1 (k : Nat) (x : Int) (fv : Int) : Option Bool := (if x < 0 then some true else some (decide (fv < x)))
set_option maxHeartbeats 8000000 in
theorem sflow_bounded_1_ok (ax : Axs) (hx : Plain ax) (k : Nat) (x : Int) (fv : Int) (v : Bool) (H : sflow_bounded_1 k x fv = some v) : Pure Try.prog (EE ax) [] 65 [.int .i64 x, .cp [.int .i64 fv]] (.bool v) := by
 rw [sflow_bounded_1] at H
 refine en [.tmp 3] 11 [0, 1] (hx.no _ (by decide)) (fn65 ax) ?_
 intro h hh
 repeat apply TW.seq
 refine rk [0, 1] [] hh ?_
 clear hh h
 intro h hh
 rcases isp H with ⟨c1, H⟩ | ⟨c1, H⟩
 rotate_left
 ·skip
  repeat apply TW.seq
  refine rk [3] [] (f2 hh (decide_eq_false c1)) ?_
  clear hh h
  intro h hh
  cases H
  exact rt hh
 repeat apply TW.seq
 refine rk [3] [] (f2 hh (decide_eq_true c1)) ?_
 clear hh h
 intro h hh
 cases H
 exact rt hh
def sflow_bounded (k : Nat) (l : List Int) (count : Int) (most : Int) : Option Bool := (if (l.length : Int) = count then ((sslices_ContainsFunc k l (fun y => sflow_bounded_1 k y most)).bind fun rContainsFunc => some (!rContainsFunc)) else some false)
set_option maxHeartbeats 8000000 in
theorem sflow_bounded_ok (ax : Axs) (hx : Plain ax) (k : Nat) (l : List Int) (count : Int) (most : Int) (v : Bool) (H : sflow_bounded k l count most = some v) : Pure Try.prog (EE ax) [] 42 [ints l, .int .i64 count, .int .i64 most] (.bool v) := by
 rw [sflow_bounded] at H
 refine en [.tmp 6] 17 [0, 1, 2] (hx.no _ (by decide)) (fn42 ax) ?_
 intro h hh
 repeat apply TW.seq
 refine rk [0, 1, 5] [] hh ?_
 clear hh h
 intro h hh
 refine zk 5 0 1 true [.int .i64 most] [0, 1, 5] hh ?_
 clear hh h
 intro h hh
 rcases isp H with ⟨c1, H⟩ | ⟨c1, H⟩
 rotate_left
 ·skip
  repeat apply TW.seq
  refine rk [6] [] (f2 hh (decide_eq_false c1)) ?_
  clear hh h
  intro h hh
  cases H
  exact rt hh
 obtain ⟨rContainsFunc, e2, H⟩ := bsome H
 repeat apply TW.seq
 refine rkc [6] [] [(.bool rContainsFunc, stL [.gone])] (f2 hh (decide_eq_true c1)) ?_ ?_
 ·exact ⟨Call0.call ((sslices_ContainsFunc_ok ax hx k l (fun y => sflow_bounded_1 k y most) rContainsFunc e2 65 [.cp [.int .i64 most]] (by simp only [ids2B, ids2C, idsA, idsB, idsC, idsD, idsE, Bool.and_self]) (fun y w hw => by first | exact sflow_bounded_1_ok ax hx k y most w hw | exact (sflow_bounded_1_ok ax hx k y most w hw))).call _), trivial⟩
 clear hh h
 intro h hh
 cases H
 exact rt hh
def sflow_Check_L0 (k : Nat) (n : Net) (f_ : Failure) (flow : List Int) : Nat → Int → (List Int) → Option ((Int × Bool) ⊕ (List Int))
 | 0, _, _ => none
 | m + 1, i, l => (if i < (flow.length : Int) then (if (0 : Int) ≤ i ∧ i < (flow.length : Int) then (if (0 : Int) ≤ i ∧ i < (n.links.length : Int) then (((if (gx flow i) < 0 then some true else (if ((gx n.links i).cap) < (gx flow i) then some true else (if 0 < (gx flow i) then ((sgraph_Up k n f_ i).bind fun rUp => some (!rUp)) else some false))) : Option Bool).bind fun s_3 => (if s_3 = true then some (.inl (0, false)) else (if (0 : Int) ≤ ((gx n.links i).frm) ∧ ((gx n.links i).frm) < (((n.nodes.length : Int).toNat) : Int) then (if ((gx n.links i).frm).toNat < l.length then (if (0 : Int) ≤ ((gx n.links i).to) ∧ ((gx n.links i).to) < (((n.nodes.length : Int).toNat) : Int) then (if ((gx n.links i).to).toNat < (l.set ((gx n.links i).frm).toNat (IntKind.i64.wrap ((l.getD ((gx n.links i).frm).toNat default) + (gx flow i)))).length then sflow_Check_L0 k n f_ flow m (IntKind.i64.wrap (i + 1)) ((l.set ((gx n.links i).frm).toNat (IntKind.i64.wrap ((l.getD ((gx n.links i).frm).toNat default) + (gx flow i)))).set ((gx n.links i).to).toNat (IntKind.i64.wrap (((l.set ((gx n.links i).frm).toNat (IntKind.i64.wrap ((l.getD ((gx n.links i).frm).toNat default) + (gx flow i)))).getD ((gx n.links i).to).toNat default) - (gx flow i)))) else none) else none) else none) else none))) else none) else none) else some (.inr l))
def sflow_Check (k : Nat) (n : Net) (f_ : Failure) (from_ : Int) (to_ : Int) (flow : List Int) : Option (Int × Bool) := (((if from_ = to_ then some true else some (decide ((flow.length : Int) ≠ (n.links.length : Int)))) : Option Bool).bind fun s_ => (if s_ = true then some (0, false) else (if (0 : Int) ≤ (n.nodes.length : Int) ∧ (n.nodes.length : Int).toNat * 9 ≤ 1000000000 then ((sflow_Check_L0 k n f_ flow k 0 (List.replicate (n.nodes.length : Int).toNat 0) : Option ((Int × Bool) ⊕ (List Int))).bind fun o => Sum.elim (fun r => some r) (fun s_2 => (if (0 : Int) ≤ from_ ∧ from_ < (((n.nodes.length : Int).toNat) : Int) then (if from_.toNat < s_2.length then (if (0 : Int) ≤ to_ ∧ to_ < (((n.nodes.length : Int).toNat) : Int) then (if to_.toNat < (s_2.set from_.toNat 0).length then (if (s_2.getD from_.toNat default) < 0 then some (0, false) else (if ((s_2.set from_.toNat 0).set to_.toNat 0).length = (n.nodes.length : Int).toNat then ((sslices_ContainsFunc k ((s_2.set from_.toNat 0).set to_.toNat 0) (fun y => sflow_Check_1 k y)).bind fun rContainsFunc => (if rContainsFunc = true then some (0, false) else some (s_2.getD from_.toNat default, true))) else none)) else none) else none) else none) else none)) o) else none)))
set_option maxHeartbeats 8000000 in
theorem sflow_Check_ok (ax : Axs) (hx : Plain ax) (k : Nat) (n : Net) (f_ : Failure) (from_ : Int) (to_ : Int) (flow : List Int) (v : Int × Bool) (H : sflow_Check k n f_ from_ to_ flow = some v) : Pure Try.prog (EE ax) [] 11 [eNet n, eFail f_, .int .i64 from_, .int .i64 to_, ints flow] (tupT [.int .i64 v.1, .bool v.2]) := by
 rw [sflow_Check] at H
 refine enN [.tmp 10, .tmp 11] 97 [0, 1, 2, 3, 4] (hx.no _ (by decide)) (fn11 ax) ?_
 intro h hh
 repeat apply TW.seq
 refine rk [2, 3, 4, 5, 6] [] hh ?_
 clear hh h
 intro h hh
 obtain ⟨s_, H1, H⟩ := bsome H
 repeat apply TW.seq
 refine cu [2, 3, 4, 5, 6, 27] 2 (fun h bs => (h 2 = .int .i64 from_ ∧ h 3 = .int .i64 to_ ∧ h 4 = ints flow ∧ h 5 = .ptr 0 0 3 ∧ h 6 = .ptr 1 0 2 ∧ h 27 = .bool s_) ∧ bs = [.cells true 3 [lNodes n.nodes, lLinks n.links, lEdges n.edges], .cells true 2 [ints f_.links, .int .i64 f_.node]]) ?_ ?_
 ·skip
  rcases isp H1 with ⟨c1, H1⟩ | ⟨c1, H1⟩
  rotate_left
  ·skip
   repeat apply TW.seq
   refine rk [2, 3, 4, 5, 6, 27] [] (f2 hh (decide_eq_false c1)) ?_
   clear hh h
   intro h hh
   cases H1
   exact ce hh ⟨kq hh, rfl⟩
  repeat apply TW.seq
  refine rk [2, 3, 4, 5, 6, 27] [] (f2 hh (decide_eq_true c1)) ?_
  clear hh h
  intro h hh
  cases H1
  exact ce hh ⟨kq hh, rfl⟩
 clear hh h
 rintro h bs ⟨hh, rfl⟩
 rcases isb H with ⟨c2, H⟩ | ⟨c2, H⟩
 rotate_left
 ·skip
  repeat apply TW.seq
  refine cf (f2 hh c2) ?_
  repeat apply TW.seq
  refine sk ?_
  obtain ⟨g3, H⟩ := isg H
  repeat apply TW.seq
  refine rk [2, 3, 4, 5, 6, 12] [] (f2 hh c2) ?_
  clear hh h
  intro h hh
  repeat apply TW.seq
  refine rk [2, 3, 5, 6, 12, 32, 33, 34] [] (f2 hh c2) ?_
  clear hh h
  intro h hh
  obtain ⟨o, H1, H⟩ := bsome H
  repeat apply TW.seq
  refine cu [2, 3, 12] 3 (fun h bs => ∃ s_2 : List Int, o = .inr s_2 ∧ (h 2 = .int .i64 from_ ∧ h 3 = .int .i64 to_ ∧ h 12 = .arr 2 1 0 ((n.nodes.length : Int).toNat) ((n.nodes.length : Int).toNat) ((n.nodes.length : Int).toNat)) ∧ bs = [.cells true 3 [lNodes n.nodes, lLinks n.links, lEdges n.edges], .cells true 2 [ints f_.links, .int .i64 f_.node], .cells true ((n.nodes.length : Int).toNat) (s_2.map (T.int .i64))]) ?_ ?_
  ·skip
   repeat apply TW.seq
   apply TW.block
   repeat apply TW.seq
   refine TW.loopT [2, 3, 5, 6, 12, 32, 33, 34] (fun m h bs => ∃ (i : Int) (l : List Int), sflow_Check_L0 k n f_ flow m i l = some o ∧ (h 2 = .int .i64 from_ ∧ h 3 = .int .i64 to_ ∧ h 5 = .ptr 0 0 3 ∧ h 6 = .ptr 1 0 2 ∧ h 12 = .arr 2 1 0 ((n.nodes.length : Int).toNat) ((n.nodes.length : Int).toNat) ((n.nodes.length : Int).toNat) ∧ h 32 = ints flow ∧ h 33 = .int .i64 (flow.length : Int) ∧ h 34 = .int .i64 i) ∧ bs = [.cells true 3 [lNodes n.nodes, lLinks n.links, lEdges n.edges], .cells true 2 [ints f_.links, .int .i64 f_.node], .cells true ((n.nodes.length : Int).toNat) (l.map (T.int .i64))]) ?_ k _ _ ?_
   rotate_left
   ·exact ⟨0, (List.replicate (n.nodes.length : Int).toNat 0), H1, kq hh, rfl⟩
   clear hh h H1
   rintro m h bs ⟨i, l, H1, hh, rfl⟩
   rcases m with _ | m
   ·rw [sflow_Check_L0] at H1; cases H1
   rw [sflow_Check_L0] at H1
   repeat apply TW.seq
   refine rk [2, 3, 5, 6, 12, 32, 33, 34, 35] [] (f2 hh c2) ?_
   clear hh h
   intro h hh
   rcases isp H1 with ⟨c4, H1⟩ | ⟨c4, H1⟩
   rotate_left
   ·skip
    repeat apply TW.seq
    refine cf (f2 hh (decide_eq_false c4)) ?_
    refine xk ?_
    cases H1
    exact ce hh ⟨_, rfl, kq hh, rfl⟩
   repeat apply TW.seq
   refine ct (f2 hh (decide_eq_true c4)) ?_
   repeat apply TW.seq
   refine sk ?_
   repeat apply TW.seq
   apply TW.block
   obtain ⟨g5, H1⟩ := isg H1
   repeat apply TW.seq
   refine rk [2, 3, 5, 6, 12, 13, 14, 32, 33, 34] [] (f3 hh c2 (gx_some g5)) ?_
   clear hh h
   intro h hh
   obtain ⟨g6, H1⟩ := isg H1
   repeat apply TW.seq
   refine rk [2, 3, 5, 6, 12, 13, 14, 15, 32, 33, 34] [] (f3 hh c2 (gx_some g6)) ?_
   clear hh h
   intro h hh
   obtain ⟨s_3, H2, H1⟩ := bsome H1
   repeat apply TW.seq
   refine cu [2, 3, 5, 6, 12, 14, 15, 32, 33, 34, 62] 4 (fun h bs => (h 2 = .int .i64 from_ ∧ h 3 = .int .i64 to_ ∧ h 5 = .ptr 0 0 3 ∧ h 6 = .ptr 1 0 2 ∧ h 12 = .arr 2 1 0 ((n.nodes.length : Int).toNat) ((n.nodes.length : Int).toNat) ((n.nodes.length : Int).toNat) ∧ h 14 = .int .i64 (gx flow i) ∧ h 15 = .ptr 3 0 3 ∧ h 32 = ints flow ∧ h 33 = .int .i64 (flow.length : Int) ∧ h 34 = .int .i64 i ∧ h 62 = .bool s_3) ∧ bs = [.cells true 3 [lNodes n.nodes, lLinks n.links, lEdges n.edges], .cells true 2 [ints f_.links, .int .i64 f_.node], .cells true ((n.nodes.length : Int).toNat) (l.map (T.int .i64)), .cells true 3 [.int .i64 ((gx n.links i).frm), .int .i64 ((gx n.links i).to), .int .i64 ((gx n.links i).cap)]]) ?_ ?_
   ·skip
    rcases isp H2 with ⟨c7, H2⟩ | ⟨c7, H2⟩
    rotate_left
    ·skip
     rcases isp H2 with ⟨c8, H2⟩ | ⟨c8, H2⟩
     rotate_left
     ·skip
      rcases isp H2 with ⟨c9, H2⟩ | ⟨c9, H2⟩
      rotate_left
      ·skip
       repeat apply TW.seq
       refine rk [2, 3, 5, 6, 12, 14, 15, 32, 33, 34, 62] [] (f3 hh (decide_eq_false c7) (f3 (decide_eq_false c8) (decide_eq_false c9) c2)) ?_
       clear hh h
       intro h hh
       cases H2
       exact ce hh ⟨kq hh, rfl⟩
      obtain ⟨rUp, e10, H2⟩ := bsome H2
      repeat apply TW.seq
      refine rkc [2, 3, 5, 6, 12, 14, 15, 32, 33, 34, 62] [] [(.bool rUp, stL [.cells true 3 [lNodes n.nodes, lLinks n.links, lEdges n.edges], .cells true 2 [ints f_.links, .int .i64 f_.node], .cells true ((n.nodes.length : Int).toNat) (l.map (T.int .i64)), .cells true 3 [.int .i64 ((gx n.links i).frm), .int .i64 ((gx n.links i).to), .int .i64 ((gx n.links i).cap)]])] (f3 hh (decide_eq_false c7) (f3 (decide_eq_false c8) (decide_eq_true c9) c2)) ?_ ?_
      ·exact ⟨Call0.call (Pure.clr (sgraph_Up_ok ax hx k n f_ i rUp e10 ) (by first | rfl | simp only [c2])), trivial⟩
      clear hh h
      intro h hh
      cases H2
      exact ce hh ⟨kq hh, rfl⟩
     repeat apply TW.seq
     refine rk [2, 3, 5, 6, 12, 14, 15, 32, 33, 34, 62] [] (f3 hh (decide_eq_false c7) (f2 (decide_eq_true c8) c2)) ?_
     clear hh h
     intro h hh
     cases H2
     exact ce hh ⟨kq hh, rfl⟩
    repeat apply TW.seq
    refine rk [2, 3, 5, 6, 12, 14, 15, 32, 33, 34, 62] [] (f3 hh (decide_eq_true c7) c2) ?_
    clear hh h
    intro h hh
    cases H2
    exact ce hh ⟨kq hh, rfl⟩
   clear hh h
   rintro h bs ⟨hh, rfl⟩
   rcases isb H1 with ⟨c11, H1⟩ | ⟨c11, H1⟩
   rotate_left
   ·skip
    repeat apply TW.seq
    refine cf (f2 hh c11) ?_
    repeat apply TW.seq
    refine sk ?_
    obtain ⟨g12, H1⟩ := isg H1
    obtain ⟨g13, H1⟩ := isg H1
    repeat apply TW.seq
    refine rk [2, 3, 5, 6, 12, 14, 15, 32, 33, 34] [] (f3 hh c2 (f3 c11 (get_some g13) (fun f v => @spl_map _ _ f _ v g13))) ?_
    clear hh h
    intro h hh
    obtain ⟨g14, H1⟩ := isg H1
    obtain ⟨g15, H1⟩ := isg H1
    repeat apply TW.seq
    refine rk [2, 3, 5, 6, 12, 32, 33, 34] [] (f3 hh c2 (f3 c11 (get_some g15) (fun f v => @spl_map _ _ f _ v g15))) ?_
    clear hh h
    intro h hh
    repeat apply TW.seq
    refine rk [2, 3, 5, 6, 12, 32, 33, 34] [] (f3 hh c2 c11) ?_
    clear hh h
    intro h hh
    exact rd m hh ⟨(IntKind.i64.wrap (i + 1)), ((l.set ((gx n.links i).frm).toNat (IntKind.i64.wrap ((l.getD ((gx n.links i).frm).toNat default) + (gx flow i)))).set ((gx n.links i).to).toNat (IntKind.i64.wrap (((l.set ((gx n.links i).frm).toNat (IntKind.i64.wrap ((l.getD ((gx n.links i).frm).toNat default) + (gx flow i)))).getD ((gx n.links i).to).toNat default) - (gx flow i)))), H1, kq hh, rfl⟩
   repeat apply TW.seq
   refine ct (f2 hh c11) ?_
   repeat apply TW.seq
   refine rk [10, 11] [] (f3 hh c2 c11) ?_
   clear hh h
   intro h hh
   cases H1
   obtain rfl := sinl H
   exact rt hh
  clear hh h
  rintro h bs ⟨s_2, rfl, hh, rfl⟩
  replace H := sinr H
  obtain ⟨g16, H⟩ := isg H
  obtain ⟨g17, H⟩ := isg H
  repeat apply TW.seq
  refine rk [2, 3, 12, 16] [] (f3 hh c2 (get_some g17)) ?_
  clear hh h
  intro h hh
  obtain ⟨g18, H⟩ := isg H
  obtain ⟨g19, H⟩ := isg H
  repeat apply TW.seq
  refine rk [12, 16] [] (f3 hh c2 (f2 (fun f v => @spl_map _ _ f _ v g17) (fun f v => @spl_map _ _ f _ v g19))) ?_
  clear hh h
  intro h hh
  rcases isp H with ⟨c20, H⟩ | ⟨c20, H⟩
  rotate_left
  ·skip
   obtain ⟨g21, H⟩ := isg H
   obtain ⟨rContainsFunc, e22, H⟩ := bsome H
   repeat apply TW.seq
   refine rkc [16, 95] [] [(.bool rContainsFunc, stL [.cells true 3 [lNodes n.nodes, lLinks n.links, lEdges n.edges], .cells true 2 [ints f_.links, .int .i64 f_.node], .cells true ((n.nodes.length : Int).toNat) (((s_2.set from_.toNat 0).set to_.toNat 0).map (T.int .i64))])] (f3 hh (decide_eq_false c20) c2) ?_ ?_
   ·exact ⟨(by have q := Call0.call (Pure.lend (S := stL [.cells true 3 [lNodes n.nodes, lLinks n.links, lEdges n.edges], .cells true 2 [ints f_.links, .int .i64 f_.node], .cells true ((n.nodes.length : Int).toNat) (((s_2.set from_.toNat 0).set to_.toNat 0).map (T.int .i64))]) (args := [.arr 2 1 0 ((n.nodes.length : Int).toNat) ((n.nodes.length : Int).toNat) ((n.nodes.length : Int).toNat), .fn 37 [] []]) (sslices_ContainsFunc_ok ax hx k ((s_2.set from_.toNat 0).set to_.toNat 0) (fun y => sflow_Check_1 k y) rContainsFunc e22 37 [] (by simp only [ids2B, ids2C, idsA, idsB, idsC, idsD, idsE, Bool.and_self]) (fun y w hw => by first | exact sflow_Check_1_ok ax hx k y w hw | exact (sflow_Check_1_ok ax hx k y w hw))) (And.intro (lend_map (fun _ => rfl) (by rfl) g21) (And.intro (Or.inl rfl) (trivial))) rfl); (try simp only [c2] at q); exact q), trivial⟩
   clear hh h
   intro h hh
   rcases isb H with ⟨c23, H⟩ | ⟨c23, H⟩
   rotate_left
   ·skip
    repeat apply TW.seq
    refine cf (f2 hh c23) ?_
    repeat apply TW.seq
    refine sk ?_
    repeat apply TW.seq
    refine rk [10, 11] [] (f3 hh c2 c23) ?_
    clear hh h
    intro h hh
    cases H
    exact rt hh
   repeat apply TW.seq
   refine ct (f2 hh c23) ?_
   repeat apply TW.seq
   refine rk [10, 11] [] (f3 hh c2 c23) ?_
   clear hh h
   intro h hh
   cases H
   exact rt hh
  repeat apply TW.seq
  refine rk [16, 95] [] (f3 hh (decide_eq_true c20) c2) ?_
  clear hh h
  intro h hh
  repeat apply TW.seq
  refine ct hh ?_
  repeat apply TW.seq
  refine rk [10, 11] [] (f2 hh c2) ?_
  clear hh h
  intro h hh
  cases H
  exact rt hh
 repeat apply TW.seq
 refine ct (f2 hh c2) ?_
 repeat apply TW.seq
 refine rk [10, 11] [] (f2 hh c2) ?_
 clear hh h
 intro h hh
 cases H
 exact rt hh
def sflow_Cheapest_L0 (k : Nat) (n : Net) (f_ : Failure) (prices : List Int) (flow : List Int) (potentials : List Int) : Nat → Int → Option (Bool ⊕ Unit)
 | 0, _ => none
 | m + 1, i => (if i < (n.links.length : Int) then (if (0 : Int) ≤ i ∧ i < (n.links.length : Int) then ((sgraph_Up k n f_ i).bind fun rUp => (if rUp = true then (if (0 : Int) ≤ i ∧ i < (prices.length : Int) then (if (0 : Int) ≤ ((gx n.links i).frm) ∧ ((gx n.links i).frm) < (potentials.length : Int) then (if (0 : Int) ≤ ((gx n.links i).to) ∧ ((gx n.links i).to) < (potentials.length : Int) then (if (IntKind.i64.wrap ((IntKind.i64.wrap ((gx prices i) + (gx potentials ((gx n.links i).frm)))) - (gx potentials ((gx n.links i).to)))) < 0 then (if (0 : Int) ≤ i ∧ i < (flow.length : Int) then (if (gx flow i) < ((gx n.links i).cap) then some (.inl false) else (if 0 < (IntKind.i64.wrap ((IntKind.i64.wrap ((gx prices i) + (gx potentials ((gx n.links i).frm)))) - (gx potentials ((gx n.links i).to)))) then (if 0 < (gx flow i) then some (.inl false) else sflow_Cheapest_L0 k n f_ prices flow potentials m (IntKind.i64.wrap (i + 1))) else sflow_Cheapest_L0 k n f_ prices flow potentials m (IntKind.i64.wrap (i + 1)))) else none) else (if 0 < (IntKind.i64.wrap ((IntKind.i64.wrap ((gx prices i) + (gx potentials ((gx n.links i).frm)))) - (gx potentials ((gx n.links i).to)))) then (if (0 : Int) ≤ i ∧ i < (flow.length : Int) then (if 0 < (gx flow i) then some (.inl false) else sflow_Cheapest_L0 k n f_ prices flow potentials m (IntKind.i64.wrap (i + 1))) else none) else sflow_Cheapest_L0 k n f_ prices flow potentials m (IntKind.i64.wrap (i + 1)))) else none) else none) else none) else sflow_Cheapest_L0 k n f_ prices flow potentials m (IntKind.i64.wrap (i + 1)))) else none) else some (.inr ()))
def sflow_Cheapest (k : Nat) (n : Net) (f_ : Failure) (prices : List Int) (from_ : Int) (to_ : Int) (flow : List Int) (potentials : List Int) : Option Bool := ((sflow_Check k n f_ from_ to_ flow).bind fun rCheck => (((if rCheck.2 = true then ((sflow_bounded k prices (n.links.length : Int) 1048576).bind fun rbounded => (if rbounded = true then ((sflow_bounded k potentials (n.nodes.length : Int) 4294967296).bind fun rbounded2 => some (!rbounded2)) else some true)) else some true) : Option Bool).bind fun s_ => (if s_ = true then some false else ((sflow_Cheapest_L0 k n f_ prices flow potentials k 0 : Option (Bool ⊕ Unit)).bind fun o => Sum.elim (fun r => some r) (fun s_2 => some true) o))))
set_option maxHeartbeats 8000000 in
theorem sflow_Cheapest_ok (ax : Axs) (hx : Plain ax) (k : Nat) (n : Net) (f_ : Failure) (prices : List Int) (from_ : Int) (to_ : Int) (flow : List Int) (potentials : List Int) (v : Bool) (H : sflow_Cheapest k n f_ prices from_ to_ flow potentials = some v) : Pure Try.prog (EE ax) [] 15 [eNet n, eFail f_, ints prices, .int .i64 from_, .int .i64 to_, ints flow, ints potentials] (.bool v) := by
 rw [sflow_Cheapest] at H
 refine en [.tmp 14] 99 [0, 1, 2, 3, 4, 5, 6] (hx.no _ (by decide)) (fn15 ax) ?_
 intro h hh
 repeat apply TW.seq
 refine rk [2, 3, 4, 5, 6, 7, 8] [] hh ?_
 clear hh h
 intro h hh
 obtain ⟨rCheck, e1, H⟩ := bsome H
 repeat apply TW.seq
 refine rkc [2, 5, 6, 7, 8, 16] [] [(.tup [.int .i64 rCheck.1, .bool rCheck.2], stL [.cells true 3 [lNodes n.nodes, lLinks n.links, lEdges n.edges], .cells true 2 [ints f_.links, .int .i64 f_.node]])] hh ?_ ?_
 ·exact ⟨Call0.call ((sflow_Check_ok ax hx k n f_ from_ to_ flow rCheck e1 ).call _), trivial⟩
 clear hh h
 intro h hh
 obtain ⟨s_, H1, H⟩ := bsome H
 repeat apply TW.seq
 refine cu [2, 5, 6, 7, 8, 46] 2 (fun h bs => (h 2 = ints prices ∧ h 5 = ints flow ∧ h 6 = ints potentials ∧ h 7 = .ptr 0 0 3 ∧ h 8 = .ptr 1 0 2 ∧ h 46 = .bool s_) ∧ bs = [.cells true 3 [lNodes n.nodes, lLinks n.links, lEdges n.edges], .cells true 2 [ints f_.links, .int .i64 f_.node]]) ?_ ?_
 ·skip
  rcases isb H1 with ⟨c2, H1⟩ | ⟨c2, H1⟩
  rotate_left
  ·skip
   repeat apply TW.seq
   refine rk [2, 5, 6, 7, 8, 46] [] (f2 hh c2) ?_
   clear hh h
   intro h hh
   cases H1
   exact ce hh ⟨kq hh, rfl⟩
  obtain ⟨rbounded, e3, H1⟩ := bsome H1
  rcases isb H1 with ⟨c4, H1⟩ | ⟨c4, H1⟩
  rotate_left
  ·skip
   repeat apply TW.seq
   refine rkc [2, 5, 6, 7, 8, 46] [] [(.bool rbounded, stL [.cells true 3 [lNodes n.nodes, lLinks n.links, lEdges n.edges], .cells true 2 [ints f_.links, .int .i64 f_.node]])] (f3 hh c2 c4) ?_ ?_
   ·exact ⟨Call0.call (Pure.clr (sflow_bounded_ok ax hx k prices (n.links.length : Int) 1048576 rbounded e3 ) (by first | rfl | simp only [c2, c4])), trivial⟩
   clear hh h
   intro h hh
   cases H1
   exact ce hh ⟨kq hh, rfl⟩
  obtain ⟨rbounded2, e5, H1⟩ := bsome H1
  repeat apply TW.seq
  refine rkc [2, 5, 6, 7, 8, 46] [] [(.bool rbounded, stL [.cells true 3 [lNodes n.nodes, lLinks n.links, lEdges n.edges], .cells true 2 [ints f_.links, .int .i64 f_.node]]), (.bool rbounded2, stL [.cells true 3 [lNodes n.nodes, lLinks n.links, lEdges n.edges], .cells true 2 [ints f_.links, .int .i64 f_.node]])] (f3 hh c2 c4) ?_ ?_
  ·exact ⟨Call0.call (Pure.clr (sflow_bounded_ok ax hx k prices (n.links.length : Int) 1048576 rbounded e3 ) (by first | rfl | simp only [c2, c4])), Call0.call (Pure.clr (sflow_bounded_ok ax hx k potentials (n.nodes.length : Int) 4294967296 rbounded2 e5 ) (by first | rfl | simp only [c2, c4])), trivial⟩
  clear hh h
  intro h hh
  cases H1
  exact ce hh ⟨kq hh, rfl⟩
 clear hh h
 rintro h bs ⟨hh, rfl⟩
 rcases isb H with ⟨c6, H⟩ | ⟨c6, H⟩
 rotate_left
 ·skip
  repeat apply TW.seq
  refine cf (f2 hh c6) ?_
  repeat apply TW.seq
  refine sk ?_
  repeat apply TW.seq
  refine rk [2, 5, 6, 7, 8, 48, 49, 50] [] (f2 hh c6) ?_
  clear hh h
  intro h hh
  obtain ⟨o, H1, H⟩ := bsome H
  repeat apply TW.seq
  refine cu [] 2 (fun h bs => ∃ s_2 : Unit, o = .inr s_2 ∧ (True) ∧ bs = [.cells true 3 [lNodes n.nodes, lLinks n.links, lEdges n.edges], .cells true 2 [ints f_.links, .int .i64 f_.node]]) ?_ ?_
  ·skip
   repeat apply TW.seq
   apply TW.block
   repeat apply TW.seq
   refine TW.loopT [2, 5, 6, 7, 8, 48, 49, 50] (fun m h bs => ∃ (i : Int), sflow_Cheapest_L0 k n f_ prices flow potentials m i = some o ∧ (h 2 = ints prices ∧ h 5 = ints flow ∧ h 6 = ints potentials ∧ h 7 = .ptr 0 0 3 ∧ h 8 = .ptr 1 0 2 ∧ h 48 = lLinks n.links ∧ h 49 = .int .i64 (n.links.length : Int) ∧ h 50 = .int .i64 i) ∧ bs = [.cells true 3 [lNodes n.nodes, lLinks n.links, lEdges n.edges], .cells true 2 [ints f_.links, .int .i64 f_.node]]) ?_ k _ _ ?_
   rotate_left
   ·exact ⟨0, H1, kq hh, rfl⟩
   clear hh h H1
   rintro m h bs ⟨i, H1, hh, rfl⟩
   rcases m with _ | m
   ·rw [sflow_Cheapest_L0] at H1; cases H1
   rw [sflow_Cheapest_L0] at H1
   repeat apply TW.seq
   refine rk [2, 5, 6, 7, 8, 48, 49, 50, 51] [] (f2 hh c6) ?_
   clear hh h
   intro h hh
   rcases isp H1 with ⟨c7, H1⟩ | ⟨c7, H1⟩
   rotate_left
   ·skip
    repeat apply TW.seq
    refine cf (f2 hh (decide_eq_false c7)) ?_
    refine xk ?_
    cases H1
    exact ce hh ⟨_, rfl, kq hh, rfl⟩
   repeat apply TW.seq
   refine ct (f2 hh (decide_eq_true c7)) ?_
   repeat apply TW.seq
   refine sk ?_
   repeat apply TW.seq
   apply TW.block
   obtain ⟨g8, H1⟩ := isg H1
   repeat apply TW.seq
   refine rk [2, 5, 6, 7, 8, 17, 18, 48, 49, 50] [] (f3 hh c6 (gx_some g8)) ?_
   clear hh h
   intro h hh
   obtain ⟨rUp, e9, H1⟩ := bsome H1
   repeat apply TW.seq
   refine rkc [2, 5, 6, 7, 8, 17, 18, 48, 49, 50, 59] [] [(.bool rUp, stL [.cells true 3 [lNodes n.nodes, lLinks n.links, lEdges n.edges], .cells true 2 [ints f_.links, .int .i64 f_.node], .cells true 3 [.int .i64 ((gx n.links i).frm), .int .i64 ((gx n.links i).to), .int .i64 ((gx n.links i).cap)]])] (f2 hh c6) ?_ ?_
   ·exact ⟨Call0.call (Pure.clr (sgraph_Up_ok ax hx k n f_ i rUp e9 ) (by first | rfl | simp only [c6])), trivial⟩
   clear hh h
   intro h hh
   rcases isb H1 with ⟨c10, H1⟩ | ⟨c10, H1⟩
   rotate_left
   ·skip
    repeat apply TW.seq
    refine ct (f2 hh c10) ?_
    refine xk ?_
    repeat apply TW.seq
    refine rk [2, 5, 6, 7, 8, 48, 49, 50] [] (f3 hh c6 c10) ?_
    clear hh h
    intro h hh
    exact rd m hh ⟨(IntKind.i64.wrap (i + 1)), H1, kq hh, rfl⟩
   repeat apply TW.seq
   refine cf (f2 hh c10) ?_
   repeat apply TW.seq
   refine sk ?_
   obtain ⟨g11, H1⟩ := isg H1
   obtain ⟨g12, H1⟩ := isg H1
   obtain ⟨g13, H1⟩ := isg H1
   repeat apply TW.seq
   refine dk 15 [2, 5, 6, 7, 8, 17, 18, 19, 48, 49, 50] [] [] [] (f3 hh c6 (f3 c10 (gx_some g11) (f2 (gx_some g12) (gx_some g13)))) trivial trivial ?_
   clear hh h
   intro h hh
   rcases isp H1 with ⟨c14, H1⟩ | ⟨c14, H1⟩
   rotate_left
   ·skip
    rcases isp H1 with ⟨c19, H1⟩ | ⟨c19, H1⟩
    rotate_left
    ·skip
     repeat apply TW.seq
     refine dk 9 [2, 5, 6, 7, 8, 48, 49, 50, 97] [] [] [] (f3 hh (decide_eq_false c14) (f3 (decide_eq_false c19) c6 c10)) trivial trivial ?_
     clear hh h
     intro h hh
     repeat apply TW.seq
     refine cf hh ?_
     repeat apply TW.seq
     refine sk ?_
     repeat apply TW.seq
     refine rk [2, 5, 6, 7, 8, 48, 49, 50] [] (f3 hh c6 c10) ?_
     clear hh h
     intro h hh
     exact rd m hh ⟨(IntKind.i64.wrap (i + 1)), H1, kq hh, rfl⟩
    obtain ⟨g20, H1⟩ := isg H1
    repeat apply TW.seq
    refine dk 9 [2, 5, 6, 7, 8, 48, 49, 50, 97] [] [] [] (f3 hh (decide_eq_false c14) (f3 (decide_eq_true c19) c6 (f2 c10 (gx_some g20)))) trivial trivial ?_
    clear hh h
    intro h hh
    rcases isp H1 with ⟨c21, H1⟩ | ⟨c21, H1⟩
    rotate_left
    ·skip
     repeat apply TW.seq
     refine cf (f2 hh (decide_eq_false c21)) ?_
     repeat apply TW.seq
     refine sk ?_
     repeat apply TW.seq
     refine rk [2, 5, 6, 7, 8, 48, 49, 50] [] (f3 hh c6 c10) ?_
     clear hh h
     intro h hh
     exact rd m hh ⟨(IntKind.i64.wrap (i + 1)), H1, kq hh, rfl⟩
    repeat apply TW.seq
    refine ct (f2 hh (decide_eq_true c21)) ?_
    repeat apply TW.seq
    refine rk [14] [] (f3 hh c6 c10) ?_
    clear hh h
    intro h hh
    cases H1
    obtain rfl := sinl H
    exact rt hh
   obtain ⟨g15, H1⟩ := isg H1
   rcases isp H1 with ⟨c16, H1⟩ | ⟨c16, H1⟩
   rotate_left
   ·skip
    rcases isp H1 with ⟨c17, H1⟩ | ⟨c17, H1⟩
    rotate_left
    ·skip
     repeat apply TW.seq
     refine dk 9 [2, 5, 6, 7, 8, 48, 49, 50, 97] [] [] [] (f3 hh (decide_eq_true c14) (f3 (decide_eq_false c16) (decide_eq_false c17) (f3 c6 c10 (gx_some g15)))) trivial trivial ?_
     clear hh h
     intro h hh
     repeat apply TW.seq
     refine cf hh ?_
     repeat apply TW.seq
     refine sk ?_
     repeat apply TW.seq
     refine rk [2, 5, 6, 7, 8, 48, 49, 50] [] (f3 hh c6 c10) ?_
     clear hh h
     intro h hh
     exact rd m hh ⟨(IntKind.i64.wrap (i + 1)), H1, kq hh, rfl⟩
    repeat apply TW.seq
    refine dk 9 [2, 5, 6, 7, 8, 48, 49, 50, 97] [] [] [] (f3 hh (decide_eq_true c14) (f3 (decide_eq_false c16) (decide_eq_true c17) (f3 c6 c10 (gx_some g15)))) trivial trivial ?_
    clear hh h
    intro h hh
    rcases isp H1 with ⟨c18, H1⟩ | ⟨c18, H1⟩
    rotate_left
    ·skip
     repeat apply TW.seq
     refine cf (f2 hh (decide_eq_false c18)) ?_
     repeat apply TW.seq
     refine sk ?_
     repeat apply TW.seq
     refine rk [2, 5, 6, 7, 8, 48, 49, 50] [] (f3 hh c6 c10) ?_
     clear hh h
     intro h hh
     exact rd m hh ⟨(IntKind.i64.wrap (i + 1)), H1, kq hh, rfl⟩
    repeat apply TW.seq
    refine ct (f2 hh (decide_eq_true c18)) ?_
    repeat apply TW.seq
    refine rk [14] [] (f3 hh c6 c10) ?_
    clear hh h
    intro h hh
    cases H1
    obtain rfl := sinl H
    exact rt hh
   repeat apply TW.seq
   refine dk 9 [2, 5, 6, 7, 8, 48, 49, 50, 97] [] [] [] (f3 hh (decide_eq_true c14) (f3 (decide_eq_true c16) c6 (f2 c10 (gx_some g15)))) trivial trivial ?_
   clear hh h
   intro h hh
   repeat apply TW.seq
   refine ct hh ?_
   repeat apply TW.seq
   refine rk [14] [] (f3 hh c6 c10) ?_
   clear hh h
   intro h hh
   cases H1
   obtain rfl := sinl H
   exact rt hh
  clear hh h
  rintro h bs ⟨s_2, rfl, hh, rfl⟩
  replace H := sinr H
  repeat apply TW.seq
  refine rk [14] [] (f2 hh c6) ?_
  clear hh h
  intro h hh
  cases H
  exact rt hh
 repeat apply TW.seq
 refine ct (f2 hh c6) ?_
 repeat apply TW.seq
 refine rk [14] [] (f2 hh c6) ?_
 clear hh h
 intro h hh
 cases H
 exact rt hh
end Go.Proofs.Ytfalnphlgfoflaa