/- Functions as plain functions, and that the code computes them. -/
import Derived.Test.YtfalnphlgfoflaaSA
namespace Go.Proofs.Ytfalnphlgfoflaa
open Go Go.RowKit
set_option linter.unusedSimpArgs false
set_option linter.unusedVariables false
set_option linter.unusedSectionVars false
set_option maxRecDepth 100000
def sflow_Check_1 (k : Nat) (x : Int) : Option Bool := some (decide (x ≠ 0))
set_option maxHeartbeats 8000000 in
theorem sflow_Check_1_ok (ax : Axs) (hx : Plain ax) (k : Nat) (x : Int) (v : Bool) (H : sflow_Check_1 k x = some v) : Pure Try.prog (EE ax) [] 37 [.int .i64 x] (.bool v) := by
 rw [sflow_Check_1] at H
 refine en [.tmp 2] 5 [0] (hx.no _ (by decide)) (fn37 ax) ?_
 intro h hh
 repeat apply TW.seq
 refine rk [0] [] hh ?_
 clear hh h
 intro h hh
 repeat apply TW.seq
 refine rk [2] [] hh ?_
 clear hh h
 intro h hh
 cases H
 exact rt hh
def sflow_Check_L0 (k : Nat) (n : Net) (f_ : Failure) (flow : List Int) : Nat → Int → (List Int) → Option ((Int × Bool) ⊕ (List Int))
 | 0, _, _ => none
 | m + 1, i, l => (if i < (flow.length : Int) then (if (0 : Int) ≤ i ∧ i < (flow.length : Int) then (if (0 : Int) ≤ i ∧ i < (n.links.length : Int) then (((if (gx flow i) < 0 then some true else (if ((gx n.links i).cap) < (gx flow i) then some true else (if 0 < (gx flow i) then ((sgraph_Up k n f_ i).bind fun rUp => some (!rUp)) else some false))) : Option Bool).bind fun s_3 => (if s_3 = true then some (.inl (0, false)) else (if (0 : Int) ≤ ((gx n.links i).frm) ∧ ((gx n.links i).frm) < (((n.nodes.length : Int).toNat) : Int) then (if ((gx n.links i).frm).toNat < l.length then (if (0 : Int) ≤ ((gx n.links i).to) ∧ ((gx n.links i).to) < (((n.nodes.length : Int).toNat) : Int) then (if ((gx n.links i).to).toNat < (l.set ((gx n.links i).frm).toNat (IntKind.i64.wrap ((l.getD ((gx n.links i).frm).toNat default) + (gx flow i)))).length then sflow_Check_L0 k n f_ flow m (IntKind.i64.wrap (i + 1)) ((l.set ((gx n.links i).frm).toNat (IntKind.i64.wrap ((l.getD ((gx n.links i).frm).toNat default) + (gx flow i)))).set ((gx n.links i).to).toNat (IntKind.i64.wrap (((l.set ((gx n.links i).frm).toNat (IntKind.i64.wrap ((l.getD ((gx n.links i).frm).toNat default) + (gx flow i)))).getD ((gx n.links i).to).toNat default) - (gx flow i)))) else none) else none) else none) else none))) else none) else none) else some (.inr l))
def sflow_Check (k : Nat) (n : Net) (f_ : Failure) (from_ : Int) (to_ : Int) (flow : List Int) : Option (Int × Bool) := (((if from_ = to_ then some true else some (decide ((flow.length : Int) ≠ (n.links.length : Int)))) : Option Bool).bind fun s_ => (if s_ = true then some (0, false) else (if (0 : Int) ≤ (n.nodes.length : Int) ∧ (n.nodes.length : Int).toNat * 9 ≤ 1000000000 then ((sflow_Check_L0 k n f_ flow k 0 (List.replicate (n.nodes.length : Int).toNat 0) : Option ((Int × Bool) ⊕ (List Int))).bind fun o => Sum.elim (fun r => some r) (fun s_2 => (if (0 : Int) ≤ from_ ∧ from_ < (((n.nodes.length : Int).toNat) : Int) then (if from_.toNat < s_2.length then (if (0 : Int) ≤ to_ ∧ to_ < (((n.nodes.length : Int).toNat) : Int) then (if to_.toNat < (s_2.set from_.toNat 0).length then (if (s_2.getD from_.toNat default) < 0 then some (0, false) else (if ((s_2.set from_.toNat 0).set to_.toNat 0).length = (n.nodes.length : Int).toNat then ((sslices_ContainsFunc k ((s_2.set from_.toNat 0).set to_.toNat 0) (fun y => sflow_Check_1 k y)).bind fun rContainsFunc => (if rContainsFunc = true then some (0, false) else some (s_2.getD from_.toNat default, true))) else none)) else none) else none) else none) else none)) o) else none)))
set_option maxHeartbeats 8000000 in
theorem sflow_Check_ok (ax : Axs) (hx : Plain ax) (k : Nat) (n : Net) (f_ : Failure) (from_ : Int) (to_ : Int) (flow : List Int) (v : Int × Bool) (H : sflow_Check k n f_ from_ to_ flow = some v) : Pure Try.prog (EE ax) [] 11 [eNet n, eFail f_, .int .i64 from_, .int .i64 to_, ints flow] (tupT [.int .i64 v.1, .bool v.2]) := by
 rw [sflow_Check] at H
 refine enN [.tmp 10, .tmp 11] 97 [0, 1, 2, 3, 4] (hx.no _ (by decide)) (fn11 ax) ?_
 intro h hh
 repeat apply TW.seq
 refine rk [2, 3, 4, 5, 6] [] hh ?_
 clear hh h
 intro h hh
 obtain ⟨s_, H1, H⟩ := bsome H
 repeat apply TW.seq
 refine cu [2, 3, 4, 5, 6, 27] 2 (fun h bs => (h 2 = .int .i64 from_ ∧ h 3 = .int .i64 to_ ∧ h 4 = ints flow ∧ h 5 = .ptr 0 0 3 ∧ h 6 = .ptr 1 0 2 ∧ h 27 = .bool s_) ∧ bs = [.cells true 3 [lNodes n.nodes, lLinks n.links, lEdges n.edges], .cells true 2 [ints f_.links, .int .i64 f_.node]]) ?_ ?_
 ·skip
  rcases isp H1 with ⟨c1, H1⟩ | ⟨c1, H1⟩
  rotate_left
  ·skip
   repeat apply TW.seq
   refine rk [2, 3, 4, 5, 6, 27] [] (f2 hh (decide_eq_false c1)) ?_
   clear hh h
   intro h hh
   cases H1
   exact ce hh ⟨kq hh, rfl⟩
  repeat apply TW.seq
  refine rk [2, 3, 4, 5, 6, 27] [] (f2 hh (decide_eq_true c1)) ?_
  clear hh h
  intro h hh
  cases H1
  exact ce hh ⟨kq hh, rfl⟩
 clear hh h
 rintro h bs ⟨hh, rfl⟩
 rcases isb H with ⟨c2, H⟩ | ⟨c2, H⟩
 rotate_left
 ·skip
  repeat apply TW.seq
  refine cf (f2 hh c2) ?_
  repeat apply TW.seq
  refine sk ?_
  obtain ⟨g3, H⟩ := isg H
  repeat apply TW.seq
  refine rk [2, 3, 4, 5, 6, 12] [] (f2 hh c2) ?_
  clear hh h
  intro h hh
  repeat apply TW.seq
  refine rk [2, 3, 5, 6, 12, 32, 33, 34] [] (f2 hh c2) ?_
  clear hh h
  intro h hh
  obtain ⟨o, H1, H⟩ := bsome H
  repeat apply TW.seq
  refine cu [2, 3, 12] 3 (fun h bs => ∃ s_2 : List Int, o = .inr s_2 ∧ (h 2 = .int .i64 from_ ∧ h 3 = .int .i64 to_ ∧ h 12 = .arr 2 1 0 ((n.nodes.length : Int).toNat) ((n.nodes.length : Int).toNat) ((n.nodes.length : Int).toNat)) ∧ bs = [.cells true 3 [lNodes n.nodes, lLinks n.links, lEdges n.edges], .cells true 2 [ints f_.links, .int .i64 f_.node], .cells true ((n.nodes.length : Int).toNat) (s_2.map (T.int .i64))]) ?_ ?_
  ·skip
   repeat apply TW.seq
   apply TW.block
   repeat apply TW.seq
   refine TW.loopT [2, 3, 5, 6, 12, 32, 33, 34] (fun m h bs => ∃ (i : Int) (l : List Int), sflow_Check_L0 k n f_ flow m i l = some o ∧ (h 2 = .int .i64 from_ ∧ h 3 = .int .i64 to_ ∧ h 5 = .ptr 0 0 3 ∧ h 6 = .ptr 1 0 2 ∧ h 12 = .arr 2 1 0 ((n.nodes.length : Int).toNat) ((n.nodes.length : Int).toNat) ((n.nodes.length : Int).toNat) ∧ h 32 = ints flow ∧ h 33 = .int .i64 (flow.length : Int) ∧ h 34 = .int .i64 i) ∧ bs = [.cells true 3 [lNodes n.nodes, lLinks n.links, lEdges n.edges], .cells true 2 [ints f_.links, .int .i64 f_.node], .cells true ((n.nodes.length : Int).toNat) (l.map (T.int .i64))]) ?_ k _ _ ?_
   rotate_left
   ·exact ⟨0, (List.replicate (n.nodes.length : Int).toNat 0), H1, kq hh, rfl⟩
   clear hh h H1
   rintro m h bs ⟨i, l, H1, hh, rfl⟩
   rcases m with _ | m
   ·rw [sflow_Check_L0] at H1; cases H1
   rw [sflow_Check_L0] at H1
   repeat apply TW.seq
   refine rk [2, 3, 5, 6, 12, 32, 33, 34, 35] [] (f2 hh c2) ?_
   clear hh h
   intro h hh
   rcases isp H1 with ⟨c4, H1⟩ | ⟨c4, H1⟩
   rotate_left
   ·skip
    repeat apply TW.seq
    refine cf (f2 hh (decide_eq_false c4)) ?_
    refine xk ?_
    cases H1
    exact ce hh ⟨_, rfl, kq hh, rfl⟩
   repeat apply TW.seq
   refine ct (f2 hh (decide_eq_true c4)) ?_
   repeat apply TW.seq
   refine sk ?_
   repeat apply TW.seq
   apply TW.block
   obtain ⟨g5, H1⟩ := isg H1
   repeat apply TW.seq
   refine rk [2, 3, 5, 6, 12, 13, 14, 32, 33, 34] [] (f3 hh c2 (gx_some g5)) ?_
   clear hh h
   intro h hh
   obtain ⟨g6, H1⟩ := isg H1
   repeat apply TW.seq
   refine rk [2, 3, 5, 6, 12, 13, 14, 15, 32, 33, 34] [] (f3 hh c2 (gx_some g6)) ?_
   clear hh h
   intro h hh
   obtain ⟨s_3, H2, H1⟩ := bsome H1
   repeat apply TW.seq
   refine cu [2, 3, 5, 6, 12, 14, 15, 32, 33, 34, 62] 4 (fun h bs => (h 2 = .int .i64 from_ ∧ h 3 = .int .i64 to_ ∧ h 5 = .ptr 0 0 3 ∧ h 6 = .ptr 1 0 2 ∧ h 12 = .arr 2 1 0 ((n.nodes.length : Int).toNat) ((n.nodes.length : Int).toNat) ((n.nodes.length : Int).toNat) ∧ h 14 = .int .i64 (gx flow i) ∧ h 15 = .ptr 3 0 3 ∧ h 32 = ints flow ∧ h 33 = .int .i64 (flow.length : Int) ∧ h 34 = .int .i64 i ∧ h 62 = .bool s_3) ∧ bs = [.cells true 3 [lNodes n.nodes, lLinks n.links, lEdges n.edges], .cells true 2 [ints f_.links, .int .i64 f_.node], .cells true ((n.nodes.length : Int).toNat) (l.map (T.int .i64)), .cells true 3 [.int .i64 ((gx n.links i).frm), .int .i64 ((gx n.links i).to), .int .i64 ((gx n.links i).cap)]]) ?_ ?_
   ·skip
    rcases isp H2 with ⟨c7, H2⟩ | ⟨c7, H2⟩
    rotate_left
    ·skip
     rcases isp H2 with ⟨c8, H2⟩ | ⟨c8, H2⟩
     rotate_left
     ·skip
      rcases isp H2 with ⟨c9, H2⟩ | ⟨c9, H2⟩
      rotate_left
      ·skip
       repeat apply TW.seq
       refine rk [2, 3, 5, 6, 12, 14, 15, 32, 33, 34, 62] [] (f3 hh (decide_eq_false c7) (f3 (decide_eq_false c8) (decide_eq_false c9) c2)) ?_
       clear hh h
       intro h hh
       cases H2
       exact ce hh ⟨kq hh, rfl⟩
      obtain ⟨rUp, e10, H2⟩ := bsome H2
      repeat apply TW.seq
      refine rkc [2, 3, 5, 6, 12, 14, 15, 32, 33, 34, 62] [] [(.bool rUp, stL [.cells true 3 [lNodes n.nodes, lLinks n.links, lEdges n.edges], .cells true 2 [ints f_.links, .int .i64 f_.node], .cells true ((n.nodes.length : Int).toNat) (l.map (T.int .i64)), .cells true 3 [.int .i64 ((gx n.links i).frm), .int .i64 ((gx n.links i).to), .int .i64 ((gx n.links i).cap)]])] (f3 hh (decide_eq_false c7) (f3 (decide_eq_false c8) (decide_eq_true c9) c2)) ?_ ?_
      ·exact ⟨Call0.call (Pure.clr (sgraph_Up_ok ax hx k n f_ i rUp e10 ) (by first | rfl | simp only [c2])), trivial⟩
      clear hh h
      intro h hh
      cases H2
      exact ce hh ⟨kq hh, rfl⟩
     repeat apply TW.seq
     refine rk [2, 3, 5, 6, 12, 14, 15, 32, 33, 34, 62] [] (f3 hh (decide_eq_false c7) (f2 (decide_eq_true c8) c2)) ?_
     clear hh h
     intro h hh
     cases H2
     exact ce hh ⟨kq hh, rfl⟩
    repeat apply TW.seq
    refine rk [2, 3, 5, 6, 12, 14, 15, 32, 33, 34, 62] [] (f3 hh (decide_eq_true c7) c2) ?_
    clear hh h
    intro h hh
    cases H2
    exact ce hh ⟨kq hh, rfl⟩
   clear hh h
   rintro h bs ⟨hh, rfl⟩
   rcases isb H1 with ⟨c11, H1⟩ | ⟨c11, H1⟩
   rotate_left
   ·skip
    repeat apply TW.seq
    refine cf (f2 hh c11) ?_
    repeat apply TW.seq
    refine sk ?_
    obtain ⟨g12, H1⟩ := isg H1
    obtain ⟨g13, H1⟩ := isg H1
    repeat apply TW.seq
    refine rk [2, 3, 5, 6, 12, 14, 15, 32, 33, 34] [] (f3 hh c2 (f3 c11 (get_some g13) (fun f v => @spl_map _ _ f _ v g13))) ?_
    clear hh h
    intro h hh
    obtain ⟨g14, H1⟩ := isg H1
    obtain ⟨g15, H1⟩ := isg H1
    repeat apply TW.seq
    refine rk [2, 3, 5, 6, 12, 32, 33, 34] [] (f3 hh c2 (f3 c11 (get_some g15) (fun f v => @spl_map _ _ f _ v g15))) ?_
    clear hh h
    intro h hh
    repeat apply TW.seq
    refine rk [2, 3, 5, 6, 12, 32, 33, 34] [] (f3 hh c2 c11) ?_
    clear hh h
    intro h hh
    exact rd m hh ⟨(IntKind.i64.wrap (i + 1)), ((l.set ((gx n.links i).frm).toNat (IntKind.i64.wrap ((l.getD ((gx n.links i).frm).toNat default) + (gx flow i)))).set ((gx n.links i).to).toNat (IntKind.i64.wrap (((l.set ((gx n.links i).frm).toNat (IntKind.i64.wrap ((l.getD ((gx n.links i).frm).toNat default) + (gx flow i)))).getD ((gx n.links i).to).toNat default) - (gx flow i)))), H1, kq hh, rfl⟩
   repeat apply TW.seq
   refine ct (f2 hh c11) ?_
   repeat apply TW.seq
   refine rk [10, 11] [] (f3 hh c2 c11) ?_
   clear hh h
   intro h hh
   cases H1
   obtain rfl := sinl H
   exact rt hh
  clear hh h
  rintro h bs ⟨s_2, rfl, hh, rfl⟩
  replace H := sinr H
  obtain ⟨g16, H⟩ := isg H
  obtain ⟨g17, H⟩ := isg H
  repeat apply TW.seq
  refine rk [2, 3, 12, 16] [] (f3 hh c2 (get_some g17)) ?_
  clear hh h
  intro h hh
  obtain ⟨g18, H⟩ := isg H
  obtain ⟨g19, H⟩ := isg H
  repeat apply TW.seq
  refine rk [12, 16] [] (f3 hh c2 (f2 (fun f v => @spl_map _ _ f _ v g17) (fun f v => @spl_map _ _ f _ v g19))) ?_
  clear hh h
  intro h hh
  rcases isp H with ⟨c20, H⟩ | ⟨c20, H⟩
  rotate_left
  ·skip
   obtain ⟨g21, H⟩ := isg H
   obtain ⟨rContainsFunc, e22, H⟩ := bsome H
   repeat apply TW.seq
   refine rkc [16, 95] [] [(.bool rContainsFunc, stL [.cells true 3 [lNodes n.nodes, lLinks n.links, lEdges n.edges], .cells true 2 [ints f_.links, .int .i64 f_.node], .cells true ((n.nodes.length : Int).toNat) (((s_2.set from_.toNat 0).set to_.toNat 0).map (T.int .i64))])] (f3 hh (decide_eq_false c20) c2) ?_ ?_
   ·exact ⟨(by have q := Call0.call (Pure.lend (S := stL [.cells true 3 [lNodes n.nodes, lLinks n.links, lEdges n.edges], .cells true 2 [ints f_.links, .int .i64 f_.node], .cells true ((n.nodes.length : Int).toNat) (((s_2.set from_.toNat 0).set to_.toNat 0).map (T.int .i64))]) (args := [.arr 2 1 0 ((n.nodes.length : Int).toNat) ((n.nodes.length : Int).toNat) ((n.nodes.length : Int).toNat), .fn 37 [] []]) (sslices_ContainsFunc_ok ax hx k ((s_2.set from_.toNat 0).set to_.toNat 0) (fun y => sflow_Check_1 k y) rContainsFunc e22 37 [] (by simp only [ids2B, ids2C, idsA, idsB, idsC, idsD, idsE, Bool.and_self]) (fun y w hw => by first | exact sflow_Check_1_ok ax hx k y w hw | exact (sflow_Check_1_ok ax hx k y w hw))) (And.intro (lend_map (fun _ => rfl) (by rfl) g21) (And.intro (Or.inl rfl) (trivial))) rfl); (try simp only [c2] at q); exact q), trivial⟩
   clear hh h
   intro h hh
   rcases isb H with ⟨c23, H⟩ | ⟨c23, H⟩
   rotate_left
   ·skip
    repeat apply TW.seq
    refine cf (f2 hh c23) ?_
    repeat apply TW.seq
    refine sk ?_
    repeat apply TW.seq
    refine rk [10, 11] [] (f3 hh c2 c23) ?_
    clear hh h
    intro h hh
    cases H
    exact rt hh
   repeat apply TW.seq
   refine ct (f2 hh c23) ?_
   repeat apply TW.seq
   refine rk [10, 11] [] (f3 hh c2 c23) ?_
   clear hh h
   intro h hh
   cases H
   exact rt hh
  repeat apply TW.seq
  refine rk [16, 95] [] (f3 hh (decide_eq_true c20) c2) ?_
  clear hh h
  intro h hh
  repeat apply TW.seq
  refine ct hh ?_
  repeat apply TW.seq
  refine rk [10, 11] [] (f2 hh c2) ?_
  clear hh h
  intro h hh
  cases H
  exact rt hh
 repeat apply TW.seq
 refine ct (f2 hh c2) ?_
 repeat apply TW.seq
 refine rk [10, 11] [] (f2 hh c2) ?_
 clear hh h
 intro h hh
 cases H
 exact rt hh
end Go.Proofs.Ytfalnphlgfoflaa