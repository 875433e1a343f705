/- Functions as plain functions, and that the code computes them. -/
import Derived.Test.YtfalnphlgfoflaaSA
namespace Go.Proofs.Ytfalnphlgfoflaa
open Go Go.RowKit
set_option linter.unusedSimpArgs false
set_option linter.unusedVariables false
set_option linter.unusedSectionVars false
set_option maxRecDepth 100000
def sr22_isNode (k : Nat) (n : Net) (k_ : Int) : Option Bool := (if 0 ≤ k_ then some (decide (k_ < (n.nodes.length : Int))) else some false)
set_option maxHeartbeats 8000000 in
theorem sr22_isNode_ok (ax : Axs) (hx : Plain ax) (k : Nat) (n : Net) (k_ : Int) (v : Bool) (H : sr22_isNode k n k_ = some v) : Pure Try.prog (EE ax) [] 43 [eNet n, .int .i64 k_] (.bool v) := by
 rw [sr22_isNode] at H
 refine en [.tmp 4] 14 [0, 1] (hx.no _ (by decide)) (fn43 ax) ?_
 intro h hh
 repeat apply TW.seq
 refine rk [1, 2] [] hh ?_
 clear hh h
 intro h hh
 rcases isp H with ⟨c1, H⟩ | ⟨c1, H⟩
 rotate_left
 ·skip
  repeat apply TW.seq
  refine rk [4] [] (f2 hh (decide_eq_false c1)) ?_
  clear hh h
  intro h hh
  cases H
  exact rt hh
 repeat apply TW.seq
 refine rk [4] [] (f2 hh (decide_eq_true c1)) ?_
 clear hh h
 intro h hh
 cases H
 exact rt hh
def sr09_Up_L0 (k : Nat) (f_ : Failure) (link : Int) : Nat → Int → Option (Bool ⊕ Unit)
 | 0, _ => none
 | m + 1, i => (if i < (f_.links.length : Int) then (if (0 : Int) ≤ i ∧ i < (f_.links.length : Int) then (if (gx f_.links i) = link then some (.inl false) else sr09_Up_L0 k f_ link m (IntKind.i64.wrap (i + 1))) else none) else some (.inr ()))
def sr09_Up (k : Nat) (n : Net) (f_ : Failure) (link : Int) : Option Bool := ((sr09_Up_L0 k f_ link k 0 : Option (Bool ⊕ Unit)).bind fun o => Sum.elim (fun r => some r) (fun s_ => (if (0 : Int) ≤ link ∧ link < (n.links.length : Int) then (if ((gx n.links link).frm) ≠ f_.node then some (decide (((gx n.links link).to) ≠ f_.node)) else some false) else none)) o)
set_option maxHeartbeats 8000000 in
theorem sr09_Up_ok (ax : Axs) (hx : Plain ax) (k : Nat) (n : Net) (f_ : Failure) (link : Int) (v : Bool) (H : sr09_Up k n f_ link = some v) : Pure Try.prog (EE ax) [] 38 [eNet n, eFail f_, .int .i64 link] (.bool v) := by
 rw [sr09_Up] at H
 refine en [.tmp 6] 42 [0, 1, 2] (hx.no _ (by decide)) (fn38 ax) ?_
 intro h hh
 repeat apply TW.seq
 refine rk [2, 3, 4] [] hh ?_
 clear hh h
 intro h hh
 repeat apply TW.seq
 refine rk [2, 3, 4, 7] [] hh ?_
 clear hh h
 intro h hh
 obtain ⟨o, H1, H⟩ := bsome H
 repeat apply TW.seq
 refine cu [2, 3, 4] 2 (fun h bs => ∃ s_ : Unit, o = .inr s_ ∧ (h 2 = .int .i64 link ∧ h 3 = .ptr 0 0 3 ∧ h 4 = .ptr 1 0 2) ∧ bs = [.cells true 3 [lNodes n.nodes, lLinks n.links, lEdges n.edges], .cells true 2 [ints f_.links, .int .i64 f_.node]]) ?_ ?_
 ·skip
  repeat apply TW.seq
  apply TW.block
  repeat apply TW.seq
  refine TW.loopT [2, 3, 4, 7] (fun m h bs => ∃ (i : Int), sr09_Up_L0 k f_ link m i = some o ∧ (h 2 = .int .i64 link ∧ h 3 = .ptr 0 0 3 ∧ h 4 = .ptr 1 0 2 ∧ h 7 = .int .i64 i) ∧ bs = [.cells true 3 [lNodes n.nodes, lLinks n.links, lEdges n.edges], .cells true 2 [ints f_.links, .int .i64 f_.node]]) ?_ k _ _ ?_
  rotate_left
  ·exact ⟨0, H1, kq hh, rfl⟩
  clear hh h H1
  rintro m h bs ⟨i, H1, hh, rfl⟩
  rcases m with _ | m
  ·rw [sr09_Up_L0] at H1; cases H1
  rw [sr09_Up_L0] at H1
  repeat apply TW.seq
  refine rk [2, 3, 4, 7, 12] [] hh ?_
  clear hh h
  intro h hh
  rcases isp H1 with ⟨c1, H1⟩ | ⟨c1, H1⟩
  rotate_left
  ·skip
   repeat apply TW.seq
   refine cf (f2 hh (decide_eq_false c1)) ?_
   refine xk ?_
   cases H1
   exact ce hh ⟨_, rfl, kq hh, rfl⟩
  repeat apply TW.seq
  refine ct (f2 hh (decide_eq_true c1)) ?_
  repeat apply TW.seq
  refine sk ?_
  repeat apply TW.seq
  apply TW.block
  obtain ⟨g2, H1⟩ := isg H1
  repeat apply TW.seq
  refine rk [2, 3, 4, 7, 21] [] (f2 hh (gx_some g2)) ?_
  clear hh h
  intro h hh
  rcases isp H1 with ⟨c3, H1⟩ | ⟨c3, H1⟩
  rotate_left
  ·skip
   repeat apply TW.seq
   refine cf (f2 hh (decide_eq_false c3)) ?_
   repeat apply TW.seq
   refine sk ?_
   repeat apply TW.seq
   refine rk [2, 3, 4, 7] [] hh ?_
   clear hh h
   intro h hh
   exact rd m hh ⟨(IntKind.i64.wrap (i + 1)), H1, kq hh, rfl⟩
  repeat apply TW.seq
  refine ct (f2 hh (decide_eq_true c3)) ?_
  repeat apply TW.seq
  refine rk [6] [] hh ?_
  clear hh h
  intro h hh
  cases H1
  obtain rfl := sinl H
  exact rt hh
 clear hh h
 rintro h bs ⟨s_, rfl, hh, rfl⟩
 replace H := sinr H
 obtain ⟨g4, H⟩ := isg H
 rcases isp H with ⟨c5, H⟩ | ⟨c5, H⟩
 rotate_left
 ·skip
  repeat apply TW.seq
  refine dk 18 [6] [] [] [] (f3 hh (decide_eq_false c5) (gx_some g4)) trivial trivial ?_
  clear hh h
  intro h hh
  cases H
  exact rt hh
 repeat apply TW.seq
 refine dk 18 [6] [] [] [] (f3 hh (decide_eq_true c5) (gx_some g4)) trivial trivial ?_
 clear hh h
 intro h hh
 cases H
 exact rt hh
def sr22_Check_L0 (k : Nat) (n : Net) (f_ : Failure) (flow : List Int) : Nat → Int → (List Int) → Option ((Int × Bool) ⊕ (List Int))
 | 0, _, _ => none
 | m + 1, k_, l => (if k_ < (flow.length : Int) then (if (0 : Int) ≤ k_ ∧ k_ < (n.links.length : Int) then ((sr09_Up k n f_ k_).bind fun rUp => (((if (0 : Int) ≤ k_ ∧ k_ < (flow.length : Int) then (if (gx flow k_) < 0 then some true else (if ((gx n.links k_).cap) < (gx flow k_) then some true else (if rUp = true then some false else some (decide (0 < (gx flow k_)))))) else none) : Option Bool).bind fun s_3 => (if s_3 = true then some (.inl (0, false)) else (if (0 : Int) ≤ ((gx n.links k_).frm) ∧ ((gx n.links k_).frm) < (((n.nodes.length : Int).toNat) : Int) then (if ((gx n.links k_).frm).toNat < l.length then (if (0 : Int) ≤ k_ ∧ k_ < (flow.length : Int) then (if (0 : Int) ≤ ((gx n.links k_).to) ∧ ((gx n.links k_).to) < (((n.nodes.length : Int).toNat) : Int) then (if ((gx n.links k_).to).toNat < (l.set ((gx n.links k_).frm).toNat (IntKind.i64.wrap ((l.getD ((gx n.links k_).frm).toNat default) + (gx flow k_)))).length then sr22_Check_L0 k n f_ flow m (IntKind.i64.wrap (k_ + 1)) ((l.set ((gx n.links k_).frm).toNat (IntKind.i64.wrap ((l.getD ((gx n.links k_).frm).toNat default) + (gx flow k_)))).set ((gx n.links k_).to).toNat (IntKind.i64.wrap (((l.set ((gx n.links k_).frm).toNat (IntKind.i64.wrap ((l.getD ((gx n.links k_).frm).toNat default) + (gx flow k_)))).getD ((gx n.links k_).to).toNat default) - (gx flow k_)))) else none) else none) else none) else none) else none)))) else none) else some (.inr l))
def sr22_Check_L1 (k : Nat) (n : Net) (from_ : Int) (to_ : Int) (s_2 : List Int) : Nat → Int → Option ((Int × Bool) ⊕ Unit)
 | 0, _ => none
 | m + 1, k_2 => (if k_2 < (((n.nodes.length : Int).toNat) : Int) then (if k_2 ≠ from_ then (if k_2 ≠ to_ then (if (0 : Int) ≤ k_2 ∧ k_2 < (((n.nodes.length : Int).toNat) : Int) then (if k_2.toNat < s_2.length then (if (s_2.getD k_2.toNat default) ≠ 0 then some (.inl (0, false)) else sr22_Check_L1 k n from_ to_ s_2 m (IntKind.i64.wrap (k_2 + 1))) else none) else none) else sr22_Check_L1 k n from_ to_ s_2 m (IntKind.i64.wrap (k_2 + 1))) else sr22_Check_L1 k n from_ to_ s_2 m (IntKind.i64.wrap (k_2 + 1))) else some (.inr ()))
def sr22_Check (k : Nat) (n : Net) (f_ : Failure) (from_ : Int) (to_ : Int) (flow : List Int) : Option (Int × Bool) := (((if from_ = to_ then some true else some (decide ((flow.length : Int) ≠ (n.links.length : Int)))) : Option Bool).bind fun s_ => (if s_ = true then some (0, false) else (if (0 : Int) ≤ (n.nodes.length : Int) ∧ (n.nodes.length : Int).toNat * 9 ≤ 1000000000 then ((sr22_Check_L0 k n f_ flow k 0 (List.replicate (n.nodes.length : Int).toNat 0) : Option ((Int × Bool) ⊕ (List Int))).bind fun o2 => Sum.elim (fun r => some r) (fun s_2 => ((sr22_Check_L1 k n from_ to_ s_2 k 0 : Option ((Int × Bool) ⊕ Unit)).bind fun o => Sum.elim (fun r => some r) (fun s_4 => (if (0 : Int) ≤ from_ ∧ from_ < (((n.nodes.length : Int).toNat) : Int) then (if from_.toNat < s_2.length then (if (s_2.getD from_.toNat default) < 0 then some (0, false) else some (s_2.getD from_.toNat default, true)) else none) else none)) o)) o2) else none)))
set_option maxHeartbeats 8000000 in
theorem sr22_Check_ok (ax : Axs) (hx : Plain ax) (k : Nat) (n : Net) (f_ : Failure) (from_ : Int) (to_ : Int) (flow : List Int) (v : Int × Bool) (H : sr22_Check k n f_ from_ to_ flow = some v) : Pure Try.prog (EE ax) [] 12 [eNet n, eFail f_, .int .i64 from_, .int .i64 to_, ints flow] (tupT [.int .i64 v.1, .bool v.2]) := by
 rw [sr22_Check] at H
 refine enN [.tmp 10, .tmp 11] 130 [0, 1, 2, 3, 4] (hx.no _ (by decide)) (fn12 ax) ?_
 intro h hh
 repeat apply TW.seq
 refine rk [2, 3, 4, 5, 6] [] hh ?_
 clear hh h
 intro h hh
 obtain ⟨s_, H1, H⟩ := bsome H
 repeat apply TW.seq
 refine cu [2, 3, 4, 5, 6, 27] 2 (fun h bs => (h 2 = .int .i64 from_ ∧ h 3 = .int .i64 to_ ∧ h 4 = ints flow ∧ h 5 = .ptr 0 0 3 ∧ h 6 = .ptr 1 0 2 ∧ h 27 = .bool s_) ∧ bs = [.cells true 3 [lNodes n.nodes, lLinks n.links, lEdges n.edges], .cells true 2 [ints f_.links, .int .i64 f_.node]]) ?_ ?_
 ·skip
  rcases isp H1 with ⟨c1, H1⟩ | ⟨c1, H1⟩
  rotate_left
  ·skip
   repeat apply TW.seq
   refine rk [2, 3, 4, 5, 6, 27] [] (f2 hh (decide_eq_false c1)) ?_
   clear hh h
   intro h hh
   cases H1
   exact ce hh ⟨kq hh, rfl⟩
  repeat apply TW.seq
  refine rk [2, 3, 4, 5, 6, 27] [] (f2 hh (decide_eq_true c1)) ?_
  clear hh h
  intro h hh
  cases H1
  exact ce hh ⟨kq hh, rfl⟩
 clear hh h
 rintro h bs ⟨hh, rfl⟩
 rcases isb H with ⟨c2, H⟩ | ⟨c2, H⟩
 rotate_left
 ·skip
  repeat apply TW.seq
  refine cf (f2 hh c2) ?_
  repeat apply TW.seq
  refine sk ?_
  obtain ⟨g3, H⟩ := isg H
  repeat apply TW.seq
  refine rk [2, 3, 4, 5, 6, 12] [] (f2 hh c2) ?_
  clear hh h
  intro h hh
  repeat apply TW.seq
  refine rk [2, 3, 4, 5, 6, 12, 13] [] (f2 hh c2) ?_
  clear hh h
  intro h hh
  obtain ⟨o2, H1, H⟩ := bsome H
  repeat apply TW.seq
  refine cu [2, 3, 12] 3 (fun h bs => ∃ s_2 : List Int, o2 = .inr s_2 ∧ (h 2 = .int .i64 from_ ∧ h 3 = .int .i64 to_ ∧ h 12 = .arr 2 1 0 ((n.nodes.length : Int).toNat) ((n.nodes.length : Int).toNat) ((n.nodes.length : Int).toNat)) ∧ bs = [.cells true 3 [lNodes n.nodes, lLinks n.links, lEdges n.edges], .cells true 2 [ints f_.links, .int .i64 f_.node], .cells true ((n.nodes.length : Int).toNat) (s_2.map (T.int .i64))]) ?_ ?_
  ·skip
   repeat apply TW.seq
   apply TW.block
   repeat apply TW.seq
   refine TW.loopT [2, 3, 4, 5, 6, 12, 13] (fun m h bs => ∃ (k_ : Int) (l : List Int), sr22_Check_L0 k n f_ flow m k_ l = some o2 ∧ (h 2 = .int .i64 from_ ∧ h 3 = .int .i64 to_ ∧ h 4 = ints flow ∧ h 5 = .ptr 0 0 3 ∧ h 6 = .ptr 1 0 2 ∧ h 12 = .arr 2 1 0 ((n.nodes.length : Int).toNat) ((n.nodes.length : Int).toNat) ((n.nodes.length : Int).toNat) ∧ h 13 = .int .i64 k_) ∧ bs = [.cells true 3 [lNodes n.nodes, lLinks n.links, lEdges n.edges], .cells true 2 [ints f_.links, .int .i64 f_.node], .cells true ((n.nodes.length : Int).toNat) (l.map (T.int .i64))]) ?_ k _ _ ?_
   rotate_left
   ·exact ⟨0, (List.replicate (n.nodes.length : Int).toNat 0), H1, kq hh, rfl⟩
   clear hh h H1
   rintro m h bs ⟨k_, l, H1, hh, rfl⟩
   rcases m with _ | m
   ·rw [sr22_Check_L0] at H1; cases H1
   rw [sr22_Check_L0] at H1
   repeat apply TW.seq
   refine rk [2, 3, 4, 5, 6, 12, 13, 35] [] (f2 hh c2) ?_
   clear hh h
   intro h hh
   rcases isp H1 with ⟨c4, H1⟩ | ⟨c4, H1⟩
   rotate_left
   ·skip
    repeat apply TW.seq
    refine cf (f2 hh (decide_eq_false c4)) ?_
    refine xk ?_
    cases H1
    exact ce hh ⟨_, rfl, kq hh, rfl⟩
   repeat apply TW.seq
   refine ct (f2 hh (decide_eq_true c4)) ?_
   repeat apply TW.seq
   refine sk ?_
   repeat apply TW.seq
   apply TW.block
   obtain ⟨g5, H1⟩ := isg H1
   repeat apply TW.seq
   refine rk [2, 3, 4, 5, 6, 12, 13, 14] [] (f3 hh c2 (gx_some g5)) ?_
   clear hh h
   intro h hh
   obtain ⟨rUp, e6, H1⟩ := bsome H1
   repeat apply TW.seq
   refine rkc [2, 3, 4, 5, 6, 12, 13, 14, 15] [] [(.bool rUp, stL [.cells true 3 [lNodes n.nodes, lLinks n.links, lEdges n.edges], .cells true 2 [ints f_.links, .int .i64 f_.node], .cells true ((n.nodes.length : Int).toNat) (l.map (T.int .i64)), .cells true 3 [.int .i64 ((gx n.links k_).frm), .int .i64 ((gx n.links k_).to), .int .i64 ((gx n.links k_).cap)]])] (f2 hh c2) ?_ ?_
   ·exact ⟨Call0.call (Pure.clr (sr09_Up_ok ax hx k n f_ k_ rUp e6 ) (by first | rfl | simp only [c2])), trivial⟩
   clear hh h
   intro h hh
   obtain ⟨s_3, H2, H1⟩ := bsome H1
   repeat apply TW.seq
   refine cu [2, 3, 4, 5, 6, 12, 13, 14, 71] 4 (fun h bs => (h 2 = .int .i64 from_ ∧ h 3 = .int .i64 to_ ∧ h 4 = ints flow ∧ h 5 = .ptr 0 0 3 ∧ h 6 = .ptr 1 0 2 ∧ h 12 = .arr 2 1 0 ((n.nodes.length : Int).toNat) ((n.nodes.length : Int).toNat) ((n.nodes.length : Int).toNat) ∧ h 13 = .int .i64 k_ ∧ h 14 = .ptr 3 0 3 ∧ h 71 = .bool s_3) ∧ bs = [.cells true 3 [lNodes n.nodes, lLinks n.links, lEdges n.edges], .cells true 2 [ints f_.links, .int .i64 f_.node], .cells true ((n.nodes.length : Int).toNat) (l.map (T.int .i64)), .cells true 3 [.int .i64 ((gx n.links k_).frm), .int .i64 ((gx n.links k_).to), .int .i64 ((gx n.links k_).cap)]]) ?_ ?_
   ·skip
    obtain ⟨g7, H2⟩ := isg H2
    rcases isp H2 with ⟨c8, H2⟩ | ⟨c8, H2⟩
    rotate_left
    ·skip
     rcases isp H2 with ⟨c9, H2⟩ | ⟨c9, H2⟩
     rotate_left
     ·skip
      rcases isb H2 with ⟨c10, H2⟩ | ⟨c10, H2⟩
      rotate_left
      ·skip
       repeat apply TW.seq
       refine dk 12 [2, 3, 4, 5, 6, 12, 13, 14, 71] [] [] [] (f3 hh (decide_eq_false c8) (f3 (decide_eq_false c9) c10 (f2 c2 (gx_some g7)))) trivial trivial ?_
       clear hh h
       intro h hh
       cases H2
       exact ce hh ⟨kq hh, rfl⟩
      repeat apply TW.seq
      refine dk 12 [2, 3, 4, 5, 6, 12, 13, 14, 71] [] [] [] (f3 hh (decide_eq_false c8) (f3 (decide_eq_false c9) c10 (f2 c2 (gx_some g7)))) trivial trivial ?_
      clear hh h
      intro h hh
      cases H2
      exact ce hh ⟨kq hh, rfl⟩
     repeat apply TW.seq
     refine dk 12 [2, 3, 4, 5, 6, 12, 13, 14, 71] [] [] [] (f3 hh (decide_eq_false c8) (f3 (decide_eq_true c9) c2 (gx_some g7))) trivial trivial ?_
     clear hh h
     intro h hh
     cases H2
     exact ce hh ⟨kq hh, rfl⟩
    repeat apply TW.seq
    refine dk 12 [2, 3, 4, 5, 6, 12, 13, 14, 71] [] [] [] (f3 hh (decide_eq_true c8) (f2 c2 (gx_some g7))) trivial trivial ?_
    clear hh h
    intro h hh
    cases H2
    exact ce hh ⟨kq hh, rfl⟩
   clear hh h
   rintro h bs ⟨hh, rfl⟩
   rcases isb H1 with ⟨c11, H1⟩ | ⟨c11, H1⟩
   rotate_left
   ·skip
    repeat apply TW.seq
    refine cf (f2 hh c11) ?_
    repeat apply TW.seq
    refine sk ?_
    obtain ⟨g12, H1⟩ := isg H1
    obtain ⟨g13, H1⟩ := isg H1
    obtain ⟨g14, H1⟩ := isg H1
    repeat apply TW.seq
    refine dk 12 [2, 3, 4, 5, 6, 12, 13, 14] [] [] [] (f3 hh c2 (f3 c11 (get_some g13) (f2 (gx_some g14) (fun f v => @spl_map _ _ f _ v g13)))) trivial trivial ?_
    clear hh h
    intro h hh
    obtain ⟨g15, H1⟩ := isg H1
    obtain ⟨g16, H1⟩ := isg H1
    repeat apply TW.seq
    refine dk 12 [2, 3, 4, 5, 6, 12, 13] [] [] [] (f3 hh c2 (f3 c11 (get_some g16) (f2 (gx_some g14) (fun f v => @spl_map _ _ f _ v g16)))) trivial trivial ?_
    clear hh h
    intro h hh
    repeat apply TW.seq
    refine rk [2, 3, 4, 5, 6, 12, 13] [] (f3 hh c2 c11) ?_
    clear hh h
    intro h hh
    exact rd m hh ⟨(IntKind.i64.wrap (k_ + 1)), ((l.set ((gx n.links k_).frm).toNat (IntKind.i64.wrap ((l.getD ((gx n.links k_).frm).toNat default) + (gx flow k_)))).set ((gx n.links k_).to).toNat (IntKind.i64.wrap (((l.set ((gx n.links k_).frm).toNat (IntKind.i64.wrap ((l.getD ((gx n.links k_).frm).toNat default) + (gx flow k_)))).getD ((gx n.links k_).to).toNat default) - (gx flow k_)))), H1, kq hh, rfl⟩
   repeat apply TW.seq
   refine ct (f2 hh c11) ?_
   repeat apply TW.seq
   refine rk [10, 11] [] (f3 hh c2 c11) ?_
   clear hh h
   intro h hh
   cases H1
   obtain rfl := sinl H
   exact rt hh
  clear hh h
  rintro h bs ⟨s_2, rfl, hh, rfl⟩
  replace H := sinr H
  repeat apply TW.seq
  refine rk [2, 3, 12, 16] [] (f2 hh c2) ?_
  clear hh h
  intro h hh
  obtain ⟨o, H1, H⟩ := bsome H
  repeat apply TW.seq
  refine cu [2, 12] 3 (fun h bs => ∃ s_4 : Unit, o = .inr s_4 ∧ (h 2 = .int .i64 from_ ∧ h 12 = .arr 2 1 0 ((n.nodes.length : Int).toNat) ((n.nodes.length : Int).toNat) ((n.nodes.length : Int).toNat)) ∧ bs = [.cells true 3 [lNodes n.nodes, lLinks n.links, lEdges n.edges], .cells true 2 [ints f_.links, .int .i64 f_.node], .cells true ((n.nodes.length : Int).toNat) (s_2.map (T.int .i64))]) ?_ ?_
  ·skip
   repeat apply TW.seq
   apply TW.block
   repeat apply TW.seq
   refine TW.loopT [2, 3, 12, 16] (fun m h bs => ∃ (k_2 : Int), sr22_Check_L1 k n from_ to_ s_2 m k_2 = some o ∧ (h 2 = .int .i64 from_ ∧ h 3 = .int .i64 to_ ∧ h 12 = .arr 2 1 0 ((n.nodes.length : Int).toNat) ((n.nodes.length : Int).toNat) ((n.nodes.length : Int).toNat) ∧ h 16 = .int .i64 k_2) ∧ bs = [.cells true 3 [lNodes n.nodes, lLinks n.links, lEdges n.edges], .cells true 2 [ints f_.links, .int .i64 f_.node], .cells true ((n.nodes.length : Int).toNat) (s_2.map (T.int .i64))]) ?_ k _ _ ?_
   rotate_left
   ·exact ⟨0, H1, kq hh, rfl⟩
   clear hh h H1
   rintro m h bs ⟨k_2, H1, hh, rfl⟩
   rcases m with _ | m
   ·rw [sr22_Check_L1] at H1; cases H1
   rw [sr22_Check_L1] at H1
   repeat apply TW.seq
   refine rk [2, 3, 12, 16, 103] [] (f2 hh c2) ?_
   clear hh h
   intro h hh
   rcases isp H1 with ⟨c17, H1⟩ | ⟨c17, H1⟩
   rotate_left
   ·skip
    repeat apply TW.seq
    refine cf (f2 hh (decide_eq_false c17)) ?_
    refine xk ?_
    cases H1
    exact ce hh ⟨_, rfl, kq hh, rfl⟩
   repeat apply TW.seq
   refine ct (f2 hh (decide_eq_true c17)) ?_
   repeat apply TW.seq
   refine sk ?_
   repeat apply TW.seq
   apply TW.block
   rcases isp H1 with ⟨c18, H1⟩ | ⟨c18, H1⟩
   rotate_left
   ·skip
    repeat apply TW.seq
    refine rk [2, 3, 12, 16, 120] [] (f3 hh (decide_eq_false c18) c2) ?_
    clear hh h
    intro h hh
    repeat apply TW.seq
    refine cf hh ?_
    repeat apply TW.seq
    refine sk ?_
    repeat apply TW.seq
    refine rk [2, 3, 12, 16] [] (f2 hh c2) ?_
    clear hh h
    intro h hh
    exact rd m hh ⟨(IntKind.i64.wrap (k_2 + 1)), H1, kq hh, rfl⟩
   rcases isp H1 with ⟨c19, H1⟩ | ⟨c19, H1⟩
   rotate_left
   ·skip
    repeat apply TW.seq
    refine rk [2, 3, 12, 16, 120] [] (f3 hh (decide_eq_true c18) (f2 (decide_eq_false c19) c2)) ?_
    clear hh h
    intro h hh
    repeat apply TW.seq
    refine cf hh ?_
    repeat apply TW.seq
    refine sk ?_
    repeat apply TW.seq
    refine rk [2, 3, 12, 16] [] (f2 hh c2) ?_
    clear hh h
    intro h hh
    exact rd m hh ⟨(IntKind.i64.wrap (k_2 + 1)), H1, kq hh, rfl⟩
   obtain ⟨g20, H1⟩ := isg H1
   obtain ⟨g21, H1⟩ := isg H1
   repeat apply TW.seq
   refine rk [2, 3, 12, 16, 120] [] (f3 hh (decide_eq_true c18) (f3 (decide_eq_true c19) c2 (get_some g21))) ?_
   clear hh h
   intro h hh
   rcases isp H1 with ⟨c22, H1⟩ | ⟨c22, H1⟩
   rotate_left
   ·skip
    repeat apply TW.seq
    refine cf (f2 hh (decide_eq_false c22)) ?_
    repeat apply TW.seq
    refine sk ?_
    repeat apply TW.seq
    refine rk [2, 3, 12, 16] [] (f2 hh c2) ?_
    clear hh h
    intro h hh
    exact rd m hh ⟨(IntKind.i64.wrap (k_2 + 1)), H1, kq hh, rfl⟩
   repeat apply TW.seq
   refine ct (f2 hh (decide_eq_true c22)) ?_
   repeat apply TW.seq
   refine rk [10, 11] [] (f2 hh c2) ?_
   clear hh h
   intro h hh
   cases H1
   obtain rfl := sinl H
   exact rt hh
  clear hh h
  rintro h bs ⟨s_4, rfl, hh, rfl⟩
  replace H := sinr H
  obtain ⟨g23, H⟩ := isg H
  obtain ⟨g24, H⟩ := isg H
  repeat apply TW.seq
  refine rk [2, 12, 125] [] (f3 hh c2 (get_some g24)) ?_
  clear hh h
  intro h hh
  rcases isp H with ⟨c25, H⟩ | ⟨c25, H⟩
  rotate_left
  ·skip
   repeat apply TW.seq
   refine cf (f2 hh (decide_eq_false c25)) ?_
   repeat apply TW.seq
   refine sk ?_
   repeat apply TW.seq
   refine rk [10, 11] [] (f3 hh c2 (get_some g24)) ?_
   clear hh h
   intro h hh
   cases H
   exact rt hh
  repeat apply TW.seq
  refine ct (f2 hh (decide_eq_true c25)) ?_
  repeat apply TW.seq
  refine rk [10, 11] [] (f2 hh c2) ?_
  clear hh h
  intro h hh
  cases H
  exact rt hh
 repeat apply TW.seq
 refine ct (f2 hh c2) ?_
 repeat apply TW.seq
 refine rk [10, 11] [] (f2 hh c2) ?_
 clear hh h
 intro h hh
 cases H
 exact rt hh
def sr22_Prices_L0 (k : Nat) (prices : List Int) : Nat → Int → Option (Bool ⊕ Unit)
 | 0, _ => none
 | m + 1, k_ => (if k_ < (prices.length : Int) then (if (0 : Int) ≤ k_ ∧ k_ < (prices.length : Int) then (if (gx prices k_) < 0 then some (.inl false) else (if 1048576 < (gx prices k_) then some (.inl false) else sr22_Prices_L0 k prices m (IntKind.i64.wrap (k_ + 1)))) else none) else some (.inr ()))
def sr22_Prices (k : Nat) (n : Net) (prices : List Int) : Option Bool := ((sr22_Prices_L0 k prices k 0 : Option (Bool ⊕ Unit)).bind fun o => Sum.elim (fun r => some r) (fun s_ => some (decide ((prices.length : Int) = (n.links.length : Int)))) o)
set_option maxHeartbeats 8000000 in
theorem sr22_Prices_ok (ax : Axs) (hx : Plain ax) (k : Nat) (n : Net) (prices : List Int) (v : Bool) (H : sr22_Prices k n prices = some v) : Pure Try.prog (EE ax) [] 20 [eNet n, ints prices] (.bool v) := by
 rw [sr22_Prices] at H
 refine en [.tmp 4] 30 [0, 1] (hx.no _ (by decide)) (fn20 ax) ?_
 intro h hh
 repeat apply TW.seq
 refine rk [1, 2] [] hh ?_
 clear hh h
 intro h hh
 repeat apply TW.seq
 refine rk [1, 2, 5] [] hh ?_
 clear hh h
 intro h hh
 obtain ⟨o, H1, H⟩ := bsome H
 repeat apply TW.seq
 refine cu [1, 2] 1 (fun h bs => ∃ s_ : Unit, o = .inr s_ ∧ (h 1 = ints prices ∧ h 2 = .ptr 0 0 3) ∧ bs = [.cells true 3 [lNodes n.nodes, lLinks n.links, lEdges n.edges]]) ?_ ?_
 ·skip
  repeat apply TW.seq
  apply TW.block
  repeat apply TW.seq
  refine TW.loopT [1, 2, 5] (fun m h bs => ∃ (k_ : Int), sr22_Prices_L0 k prices m k_ = some o ∧ (h 1 = ints prices ∧ h 2 = .ptr 0 0 3 ∧ h 5 = .int .i64 k_) ∧ bs = [.cells true 3 [lNodes n.nodes, lLinks n.links, lEdges n.edges]]) ?_ k _ _ ?_
  rotate_left
  ·exact ⟨0, H1, kq hh, rfl⟩
  clear hh h H1
  rintro m h bs ⟨k_, H1, hh, rfl⟩
  rcases m with _ | m
  ·rw [sr22_Prices_L0] at H1; cases H1
  rw [sr22_Prices_L0] at H1
  repeat apply TW.seq
  refine rk [1, 2, 5, 9] [] hh ?_
  clear hh h
  intro h hh
  rcases isp H1 with ⟨c1, H1⟩ | ⟨c1, H1⟩
  rotate_left
  ·skip
   repeat apply TW.seq
   refine cf (f2 hh (decide_eq_false c1)) ?_
   refine xk ?_
   cases H1
   exact ce hh ⟨_, rfl, kq hh, rfl⟩
  repeat apply TW.seq
  refine ct (f2 hh (decide_eq_true c1)) ?_
  repeat apply TW.seq
  refine sk ?_
  repeat apply TW.seq
  apply TW.block
  obtain ⟨g2, H1⟩ := isg H1
  rcases isp H1 with ⟨c3, H1⟩ | ⟨c3, H1⟩
  rotate_left
  ·skip
   repeat apply TW.seq
   refine rk [1, 2, 5, 23] [] (f3 hh (decide_eq_false c3) (gx_some g2)) ?_
   clear hh h
   intro h hh
   rcases isp H1 with ⟨c4, H1⟩ | ⟨c4, H1⟩
   rotate_left
   ·skip
    repeat apply TW.seq
    refine cf (f2 hh (decide_eq_false c4)) ?_
    repeat apply TW.seq
    refine sk ?_
    repeat apply TW.seq
    refine rk [1, 2, 5] [] hh ?_
    clear hh h
    intro h hh
    exact rd m hh ⟨(IntKind.i64.wrap (k_ + 1)), H1, kq hh, rfl⟩
   repeat apply TW.seq
   refine ct (f2 hh (decide_eq_true c4)) ?_
   repeat apply TW.seq
   refine rk [4] [] hh ?_
   clear hh h
   intro h hh
   cases H1
   obtain rfl := sinl H
   exact rt hh
  repeat apply TW.seq
  refine rk [1, 2, 5, 23] [] (f3 hh (decide_eq_true c3) (gx_some g2)) ?_
  clear hh h
  intro h hh
  repeat apply TW.seq
  refine ct hh ?_
  repeat apply TW.seq
  refine rk [4] [] hh ?_
  clear hh h
  intro h hh
  cases H1
  obtain rfl := sinl H
  exact rt hh
 clear hh h
 rintro h bs ⟨s_, rfl, hh, rfl⟩
 replace H := sinr H
 repeat apply TW.seq
 refine rk [4] [] hh ?_
 clear hh h
 intro h hh
 cases H
 exact rt hh
end Go.Proofs.Ytfalnphlgfoflaa