/- Functions as plain functions, and that the code computes them. -/
import Derived.Test.YtfalnphlgfoflaaSC
namespace Go.Proofs.Ytfalnphlgfoflaa
open Go Go.RowKit
set_option linter.unusedSimpArgs false
set_option linter.unusedVariables false
set_option linter.unusedSectionVars false
set_option maxRecDepth 100000
def sr22_ways_L1 (k : Nat) (n : Net) (f_ : Failure) (flow : List Int) (i : Int) : Nat → Int → (List Way) → Nat → (List Bool) → Option (List Way × Nat × List Bool)
 | 0, _, _, _, _ => none
 | m + 1, k_, l3, n3, l4 => (if k_ < (n.links.length : Int) then ((sr09_Up k n f_ k_).bind fun rUp => (if (0 : Int) ≤ k_ ∧ k_ < (n.links.length : Int) then (((if (0 : Int) ≤ i ∧ i < (n3 : Int) then (if i.toNat < l3.length then (if ((gx n.links k_).frm) = ((l3.getD i.toNat default).node) then (if (0 : Int) ≤ ((gx n.links k_).to) ∧ ((gx n.links k_).to) < (n.nodes.length : Int) then (if ((gx n.links k_).to).toNat < l4.length then (if l4.getD ((gx n.links k_).to).toNat default = true then some false else (if rUp = true then (if (0 : Int) ≤ k_ ∧ k_ < (flow.length : Int) then some (decide ((gx flow k_) < ((gx n.links k_).cap))) else none) else some false)) else none) else none) else some false) else none) else none) : Option Bool).bind fun s_4 => (((if s_4 = true then (if (0 : Int) ≤ ((gx n.links k_).to) ∧ ((gx n.links k_).to) < (n.nodes.length : Int) then (if ((gx n.links k_).to).toNat < l4.length then (if (n3 + 1) * 33 ≤ 1000000000 then some (l3 ++ [(⟨(gx n.links k_).to, i, k_, false⟩ : Way)], n3 + 1, l4.set ((gx n.links k_).to).toNat true) else none) else none) else none) else some (l3, n3, l4)) : Option (List Way × Nat × List Bool)).bind fun s_5 => (((if (0 : Int) ≤ i ∧ i < (s_5.2.1 : Int) then (if i.toNat < s_5.1.length then (if ((gx n.links k_).to) = ((s_5.1.getD i.toNat default).node) then (if (0 : Int) ≤ ((gx n.links k_).frm) ∧ ((gx n.links k_).frm) < (n.nodes.length : Int) then (if ((gx n.links k_).frm).toNat < s_5.2.2.length then (if s_5.2.2.getD ((gx n.links k_).frm).toNat default = true then some false else (if (0 : Int) ≤ k_ ∧ k_ < (flow.length : Int) then some (decide (0 < (gx flow k_))) else none)) else none) else none) else some false) else none) else none) : Option Bool).bind fun s_6 => (if s_6 = true then (if (0 : Int) ≤ ((gx n.links k_).frm) ∧ ((gx n.links k_).frm) < (n.nodes.length : Int) then (if ((gx n.links k_).frm).toNat < s_5.2.2.length then (if (s_5.2.1 + 1) * 33 ≤ 1000000000 then sr22_ways_L1 k n f_ flow i m (IntKind.i64.wrap (k_ + 1)) (s_5.1 ++ [(⟨(gx n.links k_).frm, i, k_, true⟩ : Way)]) (s_5.2.1 + 1) (s_5.2.2.set ((gx n.links k_).frm).toNat true) else none) else none) else none) else sr22_ways_L1 k n f_ flow i m (IntKind.i64.wrap (k_ + 1)) s_5.1 s_5.2.1 s_5.2.2)))) else none)) else some (l3, n3, l4))
def sr22_ways_L0 (k : Nat) (n : Net) (f_ : Failure) (flow : List Int) : Nat → Int → (List Way) → Nat → (List Bool) → Option (List Way × Nat × List Bool)
 | 0, _, _, _, _ => none
 | m + 1, i, l, n2, l2 => (if i < (n2 : Int) then ((((sr22_ways_L1 k n f_ flow i k 0 l n2 l2 : Option (List Way × Nat × List Bool)).bind fun s_3 => some (s_3.1, s_3.2.1, s_3.2.2)) : Option (List Way × Nat × List Bool)).bind fun s_2 => sr22_ways_L0 k n f_ flow m (IntKind.i64.wrap (i + 1)) s_2.1 s_2.2.1 s_2.2.2) else some (l, n2, l2))
def sr22_ways (k : Nat) (n : Net) (f_ : Failure) (from_ : Int) (flow : List Int) : Option (List Way) := (if n.nodes.length * 2 ≤ 1000000000 then (if (0 : Int) ≤ from_ ∧ from_ < (n.nodes.length : Int) then (if from_.toNat < (List.replicate n.nodes.length false).length then ((sr22_ways_L0 k n f_ flow k 0 [(⟨from_, (-1), 0, false⟩ : Way)] 1 ((List.replicate n.nodes.length false).set from_.toNat true) : Option (List Way × Nat × List Bool)).bind fun s_ => (if s_.1.length = s_.2.1 then some s_.1 else none)) else none) else none) else none)
set_option maxHeartbeats 8000000 in
theorem sr22_ways_ok (ax : Axs) (hx : Plain ax) (k : Nat) (n : Net) (f_ : Failure) (from_ : Int) (flow : List Int) (v : List Way) (H : sr22_ways k n f_ from_ flow = some v) : Pure Try.prog (EE ax) [] 49 [eNet n, eFail f_, .int .i64 from_, ints flow] (lWay v) := by
 rw [sr22_ways] at H
 refine en [.tmp 8] 123 [0, 1, 2, 3] (hx.no _ (by decide)) (fn49 ax) ?_
 intro h hh
 repeat apply TW.seq
 refine rk [2, 3, 4, 5] [] hh ?_
 clear hh h
 intro h hh
 repeat apply TW.seq
 refine rk [2, 3, 4, 5, 9] [17] hh ?_
 clear hh h
 intro h hh
 refine uz 2 ?_
 obtain ⟨g1, H⟩ := isg H
 repeat apply TW.seq
 refine rk [2, 3, 4, 5, 9, 10] [] hh ?_
 clear hh h
 intro h hh
 obtain ⟨g2, H⟩ := isg H
 obtain ⟨g3, H⟩ := isg H
 repeat apply TW.seq
 refine rk [3, 4, 5, 9, 10] [] (f2 hh (fun f v => @spl_map _ _ f _ v g3)) ?_
 clear hh h
 intro h hh
 repeat apply TW.seq
 refine rk [3, 4, 5, 9, 10, 11] [] hh ?_
 clear hh h
 intro h hh
 obtain ⟨s_, H1, H⟩ := bsome H
 repeat apply TW.seq
 refine cu [9] 4 (fun h bs => (h 9 = .arr 2 4 0 s_.2.1 s_.2.1 (s_.2.1 * 4)) ∧ bs = [.cells true 3 [lNodes n.nodes, lLinks n.links, lEdges n.edges], .cells true 2 [ints f_.links, .int .i64 f_.node], .cells false (s_.2.1 * 4) (vecC eWay s_.1), .cells true n.nodes.length (s_.2.2.map T.bool)]) ?_ ?_
 ·skip
  repeat apply TW.seq
  apply TW.block
  repeat apply TW.seq
  refine TW.loopT [3, 4, 5, 9, 10, 11] (fun m h bs => ∃ (i : Int) (l : List Way) (n2 : Nat) (l2 : List Bool), sr22_ways_L0 k n f_ flow m i l n2 l2 = some s_ ∧ (h 3 = ints flow ∧ h 4 = .ptr 0 0 3 ∧ h 5 = .ptr 1 0 2 ∧ h 9 = .arr 2 4 0 n2 n2 (n2 * 4) ∧ h 10 = .arr 3 1 0 n.nodes.length n.nodes.length n.nodes.length ∧ h 11 = .int .i64 i) ∧ bs = [.cells true 3 [lNodes n.nodes, lLinks n.links, lEdges n.edges], .cells true 2 [ints f_.links, .int .i64 f_.node], .cells false (n2 * 4) (vecC eWay l), .cells true n.nodes.length (l2.map T.bool)]) ?_ k _ _ ?_
  rotate_left
  ·exact ⟨0, [(⟨from_, (-1), 0, false⟩ : Way)], 1, ((List.replicate n.nodes.length false).set from_.toNat true), H1, kq hh, rfl⟩
  clear hh h H1
  rintro m h bs ⟨i, l, n2, l2, H1, hh, rfl⟩
  rcases m with _ | m
  ·rw [sr22_ways_L0] at H1; cases H1
  rw [sr22_ways_L0] at H1
  repeat apply TW.seq
  refine rk [3, 4, 5, 9, 10, 11, 28] [] hh ?_
  clear hh h
  intro h hh
  rcases isp H1 with ⟨c4, H1⟩ | ⟨c4, H1⟩
  rotate_left
  ·skip
   repeat apply TW.seq
   refine cf (f2 hh (decide_eq_false c4)) ?_
   refine xk ?_
   cases H1
   exact ce hh ⟨kq hh, rfl⟩
  repeat apply TW.seq
  refine ct (f2 hh (decide_eq_true c4)) ?_
  repeat apply TW.seq
  refine sk ?_
  obtain ⟨s_2, H2, H1⟩ := bsome H1
  repeat apply TW.seq
  refine cu [3, 4, 5, 9, 10, 11] 4 (fun h bs => (h 3 = ints flow ∧ h 4 = .ptr 0 0 3 ∧ h 5 = .ptr 1 0 2 ∧ h 9 = .arr 2 4 0 s_2.2.1 s_2.2.1 (s_2.2.1 * 4) ∧ h 10 = .arr 3 1 0 n.nodes.length n.nodes.length n.nodes.length ∧ h 11 = .int .i64 i) ∧ bs = [.cells true 3 [lNodes n.nodes, lLinks n.links, lEdges n.edges], .cells true 2 [ints f_.links, .int .i64 f_.node], .cells false (s_2.2.1 * 4) (vecC eWay s_2.1), .cells true n.nodes.length (s_2.2.2.map T.bool)]) ?_ ?_
  ·skip
   repeat apply TW.seq
   apply TW.block
   repeat apply TW.seq
   refine rk [3, 4, 5, 9, 10, 11, 12] [] hh ?_
   clear hh h
   intro h hh
   obtain ⟨s_3, H3, H2⟩ := bsome H2
   repeat apply TW.seq
   refine cu [3, 4, 5, 9, 10, 11] 4 (fun h bs => (h 3 = ints flow ∧ h 4 = .ptr 0 0 3 ∧ h 5 = .ptr 1 0 2 ∧ h 9 = .arr 2 4 0 s_3.2.1 s_3.2.1 (s_3.2.1 * 4) ∧ h 10 = .arr 3 1 0 n.nodes.length n.nodes.length n.nodes.length ∧ h 11 = .int .i64 i) ∧ bs = [.cells true 3 [lNodes n.nodes, lLinks n.links, lEdges n.edges], .cells true 2 [ints f_.links, .int .i64 f_.node], .cells false (s_3.2.1 * 4) (vecC eWay s_3.1), .cells true n.nodes.length (s_3.2.2.map T.bool)]) ?_ ?_
   ·skip
    repeat apply TW.seq
    apply TW.block
    repeat apply TW.seq
    refine TW.loopT [3, 4, 5, 9, 10, 11, 12] (fun m h bs => ∃ (k_ : Int) (l3 : List Way) (n3 : Nat) (l4 : List Bool), sr22_ways_L1 k n f_ flow i m k_ l3 n3 l4 = some s_3 ∧ (h 3 = ints flow ∧ h 4 = .ptr 0 0 3 ∧ h 5 = .ptr 1 0 2 ∧ h 9 = .arr 2 4 0 n3 n3 (n3 * 4) ∧ h 10 = .arr 3 1 0 n.nodes.length n.nodes.length n.nodes.length ∧ h 11 = .int .i64 i ∧ h 12 = .int .i64 k_) ∧ bs = [.cells true 3 [lNodes n.nodes, lLinks n.links, lEdges n.edges], .cells true 2 [ints f_.links, .int .i64 f_.node], .cells false (n3 * 4) (vecC eWay l3), .cells true n.nodes.length (l4.map T.bool)]) ?_ k _ _ ?_
    rotate_left
    ·exact ⟨0, l, n2, l2, H3, kq hh, rfl⟩
    clear hh h H3
    rintro m h bs ⟨k_, l3, n3, l4, H3, hh, rfl⟩
    rcases m with _ | m
    ·rw [sr22_ways_L1] at H3; cases H3
    rw [sr22_ways_L1] at H3
    repeat apply TW.seq
    refine rk [3, 4, 5, 9, 10, 11, 12, 35] [] hh ?_
    clear hh h
    intro h hh
    rcases isp H3 with ⟨c5, H3⟩ | ⟨c5, H3⟩
    rotate_left
    ·skip
     repeat apply TW.seq
     refine cf (f2 hh (decide_eq_false c5)) ?_
     refine xk ?_
     cases H3
     exact ce hh ⟨kq hh, rfl⟩
    repeat apply TW.seq
    refine ct (f2 hh (decide_eq_true c5)) ?_
    repeat apply TW.seq
    refine sk ?_
    repeat apply TW.seq
    apply TW.block
    obtain ⟨rUp, e6, H3⟩ := bsome H3
    repeat apply TW.seq
    refine rkc [3, 4, 5, 9, 10, 11, 12, 13] [] [(.bool rUp, stL [.cells true 3 [lNodes n.nodes, lLinks n.links, lEdges n.edges], .cells true 2 [ints f_.links, .int .i64 f_.node], .cells false (n3 * 4) (vecC eWay l3), .cells true n.nodes.length (l4.map T.bool)])] hh ?_ ?_
    ·exact ⟨Call0.call ((sr09_Up_ok ax hx k n f_ k_ rUp e6 ).call _), trivial⟩
    clear hh h
    intro h hh
    obtain ⟨g7, H3⟩ := isg H3
    repeat apply TW.seq
    refine rk [3, 4, 5, 9, 10, 11, 12, 13, 14] [] (f2 hh (gx_some g7)) ?_
    clear hh h
    intro h hh
    obtain ⟨s_4, H4, H3⟩ := bsome H3
    repeat apply TW.seq
    refine cu [3, 4, 5, 9, 10, 11, 12, 14, 74] 5 (fun h bs => (h 3 = ints flow ∧ h 4 = .ptr 0 0 3 ∧ h 5 = .ptr 1 0 2 ∧ h 9 = .arr 2 4 0 n3 n3 (n3 * 4) ∧ h 10 = .arr 3 1 0 n.nodes.length n.nodes.length n.nodes.length ∧ h 11 = .int .i64 i ∧ h 12 = .int .i64 k_ ∧ h 14 = .ptr 4 0 3 ∧ h 74 = .bool s_4) ∧ bs = [.cells true 3 [lNodes n.nodes, lLinks n.links, lEdges n.edges], .cells true 2 [ints f_.links, .int .i64 f_.node], .cells false (n3 * 4) (vecC eWay l3), .cells true n.nodes.length (l4.map T.bool), .cells true 3 [.int .i64 ((gx n.links k_).frm), .int .i64 ((gx n.links k_).to), .int .i64 ((gx n.links k_).cap)]]) ?_ ?_
    ·skip
     obtain ⟨g8, H4⟩ := isg H4
     obtain ⟨g9, H4⟩ := isg H4
     rcases isp H4 with ⟨c10, H4⟩ | ⟨c10, H4⟩
     rotate_left
     ·skip
      repeat apply TW.seq
      refine dk 26 [3, 4, 5, 9, 10, 11, 12, 14, 74] [] [] [] (f3 hh (decide_eq_false c10) (vecC_at0 eWay 4 (fun _ => rfl) (by decide) g9)) trivial trivial ?_
      clear hh h
      intro h hh
      cases H4
      exact ce hh ⟨kq hh, rfl⟩
     obtain ⟨g11, H4⟩ := isg H4
     obtain ⟨g12, H4⟩ := isg H4
     rcases isb H4 with ⟨c13, H4⟩ | ⟨c13, H4⟩
     rotate_left
     ·skip
      rcases isb H4 with ⟨c14, H4⟩ | ⟨c14, H4⟩
      rotate_left
      ·skip
       repeat apply TW.seq
       refine dk 26 [3, 4, 5, 9, 10, 11, 12, 14, 74] [] [] [] (f3 hh (decide_eq_true c10) (f3 c13 c14 (f2 (vecC_at0 eWay 4 (fun _ => rfl) (by decide) g9) (get_some g12)))) trivial trivial ?_
       clear hh h
       intro h hh
       cases H4
       exact ce hh ⟨kq hh, rfl⟩
      obtain ⟨g15, H4⟩ := isg H4
      repeat apply TW.seq
      refine dk 26 [3, 4, 5, 9, 10, 11, 12, 14, 74] [] [] [] (f3 hh (decide_eq_true c10) (f3 c13 c14 (f3 (vecC_at0 eWay 4 (fun _ => rfl) (by decide) g9) (get_some g12) (gx_some g15)))) trivial trivial ?_
      clear hh h
      intro h hh
      cases H4
      exact ce hh ⟨kq hh, rfl⟩
     repeat apply TW.seq
     refine dk 26 [3, 4, 5, 9, 10, 11, 12, 14, 74] [] [] [] (f3 hh (decide_eq_true c10) (f3 c13 (vecC_at0 eWay 4 (fun _ => rfl) (by decide) g9) (get_some g12))) trivial trivial ?_
     clear hh h
     intro h hh
     cases H4
     exact ce hh ⟨kq hh, rfl⟩
    clear hh h
    rintro h bs ⟨hh, rfl⟩
    obtain ⟨s_5, H4, H3⟩ := bsome H3
    repeat apply TW.seq
    refine cu [3, 4, 5, 9, 10, 11, 12, 14] 5 (fun h bs => (h 3 = ints flow ∧ h 4 = .ptr 0 0 3 ∧ h 5 = .ptr 1 0 2 ∧ h 9 = .arr 2 4 0 s_5.2.1 s_5.2.1 (s_5.2.1 * 4) ∧ h 10 = .arr 3 1 0 n.nodes.length n.nodes.length n.nodes.length ∧ h 11 = .int .i64 i ∧ h 12 = .int .i64 k_ ∧ h 14 = .ptr 4 0 3) ∧ bs = [.cells true 3 [lNodes n.nodes, lLinks n.links, lEdges n.edges], .cells true 2 [ints f_.links, .int .i64 f_.node], .cells false (s_5.2.1 * 4) (vecC eWay s_5.1), .cells true n.nodes.length (s_5.2.2.map T.bool), .cells true 3 [.int .i64 ((gx n.links k_).frm), .int .i64 ((gx n.links k_).to), .int .i64 ((gx n.links k_).cap)]]) ?_ ?_
    ·skip
     rcases isb H4 with ⟨c16, H4⟩ | ⟨c16, H4⟩
     rotate_left
     ·skip
      repeat apply TW.seq
      refine cf (f2 hh c16) ?_
      repeat apply TW.seq
      refine sk ?_
      cases H4
      exact ce hh ⟨kq hh, rfl⟩
     repeat apply TW.seq
     refine ct (f2 hh c16) ?_
     obtain ⟨g17, H4⟩ := isg H4
     obtain ⟨g18, H4⟩ := isg H4
     repeat apply TW.seq
     refine rk [3, 4, 5, 9, 10, 11, 12, 14] [] (f3 hh c16 (fun f v => @spl_map _ _ f _ v g18)) ?_
     clear hh h
     intro h hh
     obtain ⟨g19, H4⟩ := isg H4
     repeat apply TW.seq
     refine rg [] [] [.cells true 3 [lNodes n.nodes, lLinks n.links, lEdges n.edges], .cells true 2 [ints f_.links, .int .i64 f_.node], .cells false ((n3 + 1) * 4) (vecC eWay (l3 ++ [(⟨(gx n.links k_).to, i, k_, false⟩ : Way)])), .cells true n.nodes.length ((l4.set ((gx n.links k_).to).toNat true).map T.bool), .cells true 3 [.int .i64 ((gx n.links k_).frm), .int .i64 ((gx n.links k_).to), .int .i64 ((gx n.links k_).cap)]] (fun h => h 3 = ints flow ∧ h 4 = .ptr 0 0 3 ∧ h 5 = .ptr 1 0 2 ∧ h 9 = .arr 2 4 0 (n3 + 1) (n3 + 1) ((n3 + 1) * 4) ∧ h 10 = .arr 3 1 0 n.nodes.length n.nodes.length n.nodes.length ∧ h 11 = .int .i64 i ∧ h 12 = .int .i64 k_ ∧ h 14 = .ptr 4 0 3) (f2 hh c16) trivial ?_
     clear hh h
     intro h hh
     cases H4
     exact ce hh ⟨kq hh, rfl⟩
    clear hh h
    rintro h bs ⟨hh, rfl⟩
    obtain ⟨s_6, H4, H3⟩ := bsome H3
    repeat apply TW.seq
    refine cu [3, 4, 5, 9, 10, 11, 12, 14, 109] 5 (fun h bs => (h 3 = ints flow ∧ h 4 = .ptr 0 0 3 ∧ h 5 = .ptr 1 0 2 ∧ h 9 = .arr 2 4 0 s_5.2.1 s_5.2.1 (s_5.2.1 * 4) ∧ h 10 = .arr 3 1 0 n.nodes.length n.nodes.length n.nodes.length ∧ h 11 = .int .i64 i ∧ h 12 = .int .i64 k_ ∧ h 14 = .ptr 4 0 3 ∧ h 109 = .bool s_6) ∧ bs = [.cells true 3 [lNodes n.nodes, lLinks n.links, lEdges n.edges], .cells true 2 [ints f_.links, .int .i64 f_.node], .cells false (s_5.2.1 * 4) (vecC eWay s_5.1), .cells true n.nodes.length (s_5.2.2.map T.bool), .cells true 3 [.int .i64 ((gx n.links k_).frm), .int .i64 ((gx n.links k_).to), .int .i64 ((gx n.links k_).cap)]]) ?_ ?_
    ·skip
     obtain ⟨g20, H4⟩ := isg H4
     obtain ⟨g21, H4⟩ := isg H4
     rcases isp H4 with ⟨c22, H4⟩ | ⟨c22, H4⟩
     rotate_left
     ·skip
      repeat apply TW.seq
      refine dk 7 [3, 4, 5, 9, 10, 11, 12, 14, 109] [] [] [] (f3 hh (decide_eq_false c22) (vecC_at0 eWay 4 (fun _ => rfl) (by decide) g21)) trivial trivial ?_
      clear hh h
      intro h hh
      cases H4
      exact ce hh ⟨kq hh, rfl⟩
     obtain ⟨g23, H4⟩ := isg H4
     obtain ⟨g24, H4⟩ := isg H4
     rcases isb H4 with ⟨c25, H4⟩ | ⟨c25, H4⟩
     rotate_left
     ·skip
      obtain ⟨g26, H4⟩ := isg H4
      repeat apply TW.seq
      refine dk 7 [3, 4, 5, 9, 10, 11, 12, 14, 109] [] [] [] (f3 hh (decide_eq_true c22) (f3 c25 (vecC_at0 eWay 4 (fun _ => rfl) (by decide) g21) (f2 (get_some g24) (gx_some g26)))) trivial trivial ?_
      clear hh h
      intro h hh
      cases H4
      exact ce hh ⟨kq hh, rfl⟩
     repeat apply TW.seq
     refine dk 7 [3, 4, 5, 9, 10, 11, 12, 14, 109] [] [] [] (f3 hh (decide_eq_true c22) (f3 c25 (vecC_at0 eWay 4 (fun _ => rfl) (by decide) g21) (get_some g24))) trivial trivial ?_
     clear hh h
     intro h hh
     cases H4
     exact ce hh ⟨kq hh, rfl⟩
    clear hh h
    rintro h bs ⟨hh, rfl⟩
    rcases isb H3 with ⟨c27, H3⟩ | ⟨c27, H3⟩
    rotate_left
    ·skip
     repeat apply TW.seq
     refine cf (f2 hh c27) ?_
     repeat apply TW.seq
     refine sk ?_
     repeat apply TW.seq
     refine rk [3, 4, 5, 9, 10, 11, 12] [] (f2 hh c27) ?_
     clear hh h
     intro h hh
     exact rd m hh ⟨(IntKind.i64.wrap (k_ + 1)), s_5.1, s_5.2.1, s_5.2.2, H3, kq hh, rfl⟩
    repeat apply TW.seq
    refine ct (f2 hh c27) ?_
    obtain ⟨g28, H3⟩ := isg H3
    obtain ⟨g29, H3⟩ := isg H3
    repeat apply TW.seq
    refine rk [3, 4, 5, 9, 10, 11, 12, 14] [] (f3 hh c27 (fun f v => @spl_map _ _ f _ v g29)) ?_
    clear hh h
    intro h hh
    obtain ⟨g30, H3⟩ := isg H3
    repeat apply TW.seq
    refine rg [] [] [.cells true 3 [lNodes n.nodes, lLinks n.links, lEdges n.edges], .cells true 2 [ints f_.links, .int .i64 f_.node], .cells false ((s_5.2.1 + 1) * 4) (vecC eWay (s_5.1 ++ [(⟨(gx n.links k_).frm, i, k_, true⟩ : Way)])), .cells true n.nodes.length ((s_5.2.2.set ((gx n.links k_).frm).toNat true).map T.bool), .cells true 3 [.int .i64 ((gx n.links k_).frm), .int .i64 ((gx n.links k_).to), .int .i64 ((gx n.links k_).cap)]] (fun h => h 3 = ints flow ∧ h 4 = .ptr 0 0 3 ∧ h 5 = .ptr 1 0 2 ∧ h 9 = .arr 2 4 0 (s_5.2.1 + 1) (s_5.2.1 + 1) ((s_5.2.1 + 1) * 4) ∧ h 10 = .arr 3 1 0 n.nodes.length n.nodes.length n.nodes.length ∧ h 11 = .int .i64 i ∧ h 12 = .int .i64 k_) (f2 hh c27) trivial ?_
    clear hh h
    intro h hh
    repeat apply TW.seq
    refine rk [3, 4, 5, 9, 10, 11, 12] [] (f2 hh c27) ?_
    clear hh h
    intro h hh
    exact rd m hh ⟨(IntKind.i64.wrap (k_ + 1)), (s_5.1 ++ [(⟨(gx n.links k_).frm, i, k_, true⟩ : Way)]), (s_5.2.1 + 1), (s_5.2.2.set ((gx n.links k_).frm).toNat true), H3, kq hh, rfl⟩
   clear hh h
   rintro h bs ⟨hh, rfl⟩
   cases H2
   exact ce hh ⟨kq hh, rfl⟩
  clear hh h
  rintro h bs ⟨hh, rfl⟩
  repeat apply TW.seq
  refine rk [3, 4, 5, 9, 10, 11] [] hh ?_
  clear hh h
  intro h hh
  exact rd m hh ⟨(IntKind.i64.wrap (i + 1)), s_2.1, s_2.2.1, s_2.2.2, H1, kq hh, rfl⟩
 clear hh h
 rintro h bs ⟨hh, rfl⟩
 repeat apply TW.seq
 refine rk [8] [] hh ?_
 clear hh h
 intro h hh
 obtain ⟨g31, H⟩ := isg H
 refine TW.freeze 8 (b := 2) (e := 4) (off := 0) (len := s_.2.1) (cap := s_.2.1) (M := (s_.2.1 * 4)) (s_.1.map eWay) (kq hh) (by rfl) (by omega) (by omega) (by rw [List.drop_zero]; exact vecC_take (fun _ => rfl) g31) (fun t ht => by obtain ⟨x, _, rfl⟩ := List.mem_map.1 ht; first | rfl | (rw [List.length_map]; rfl)) (by rw [List.length_map]; exact g31) (by omega) ?_
 rw [st_set _ _ _ (by simp only [lzA] <;> omega)]
 simp only [scA]
 refine gk [8] hh ?_
 clear hh h
 intro h hh
 cases H
 exact rt hh
def sr22_push_L0 (k : Nat) (n : Net) (flow : List Int) (l : List Way) : Nat → Int → Int → Option Int
 | 0, _, _ => none
 | m + 1, least, i => (if (0 : Int) ≤ i ∧ i < (l.length : Int) then (if 0 ≤ ((gx l i).before) then (if (0 : Int) ≤ ((gx l i).link) ∧ ((gx l i).link) < (n.links.length : Int) then (if (0 : Int) ≤ ((gx l i).link) ∧ ((gx l i).link) < (flow.length : Int) then (((if (gx l i).back = true then some (gx flow ((gx l i).link)) else some (IntKind.i64.wrap (((gx n.links ((gx l i).link)).cap) - (gx flow ((gx l i).link))))) : Option Int).bind fun s_2 => (if least < 0 then sr22_push_L0 k n flow l m s_2 ((gx l i).before) else (if s_2 < least then sr22_push_L0 k n flow l m s_2 ((gx l i).before) else sr22_push_L0 k n flow l m least ((gx l i).before)))) else none) else none) else some least) else none)
def sr22_push_L1 (k : Nat) (l : List Way) (s_ : Int) (s_3 : List Int × Nat) : Nat → Int → (List Int) → Option (List Int)
 | 0, _, _ => none
 | m + 1, i2, l2 => (if (0 : Int) ≤ i2 ∧ i2 < (l.length : Int) then (if 0 ≤ ((gx l i2).before) then (if (gx l i2).back = true then (if (0 : Int) ≤ ((gx l i2).link) ∧ ((gx l i2).link) < (s_3.2 : Int) then (if ((gx l i2).link).toNat < l2.length then sr22_push_L1 k l s_ s_3 m ((gx l i2).before) (l2.set ((gx l i2).link).toNat (IntKind.i64.wrap ((l2.getD ((gx l i2).link).toNat default) - s_))) else none) else none) else (if (0 : Int) ≤ ((gx l i2).link) ∧ ((gx l i2).link) < (s_3.2 : Int) then (if ((gx l i2).link).toNat < l2.length then sr22_push_L1 k l s_ s_3 m ((gx l i2).before) (l2.set ((gx l i2).link).toNat (IntKind.i64.wrap ((l2.getD ((gx l i2).link).toNat default) + s_))) else none) else none)) else some l2) else none)
def sr22_push (k : Nat) (n : Net) (flow : List Int) (l : List Way) (at_ : Int) : Option (List Int) := ((sr22_push_L0 k n flow l k (-1) at_ : Option Int).bind fun s_ => (((if (0 + flow.length) * 9 ≤ 1000000000 then (if flow.length = 0 then some ([], 0) else some (flow, flow.length)) else none) : Option (List Int × Nat)).bind fun s_3 => ((sr22_push_L1 k l s_ s_3 k at_ s_3.1 : Option (List Int)).bind fun s_4 => (if s_4.length = s_3.2 then some s_4 else none))))
set_option maxHeartbeats 8000000 in
theorem sr22_push_ok (ax : Axs) (hx : Plain ax) (k : Nat) (n : Net) (flow : List Int) (l : List Way) (at_ : Int) (v : List Int) (H : sr22_push k n flow l at_ = some v) : Pure Try.prog (EE ax) [] 50 [eNet n, ints flow, lWay l, .int .i64 at_] (ints v) := by
 rw [sr22_push] at H
 refine en [.tmp 8] 121 [0, 1, 2, 3] (hx.no _ (by decide)) (fn50 ax) ?_
 intro h hh
 repeat apply TW.seq
 refine rk [1, 2, 3, 4] [] hh ?_
 clear hh h
 intro h hh
 repeat apply TW.seq
 refine rk [1, 2, 3, 4, 9] [] hh ?_
 clear hh h
 intro h hh
 repeat apply TW.seq
 refine rk [1, 2, 3, 4, 9, 10] [] hh ?_
 clear hh h
 intro h hh
 obtain ⟨s_, H1, H⟩ := bsome H
 repeat apply TW.seq
 refine cu [1, 2, 3, 9] 1 (fun h bs => (h 1 = ints flow ∧ h 2 = lWay l ∧ h 3 = .int .i64 at_ ∧ h 9 = .int .i64 s_) ∧ bs = [.cells true 3 [lNodes n.nodes, lLinks n.links, lEdges n.edges]]) ?_ ?_
 ·skip
  repeat apply TW.seq
  apply TW.block
  repeat apply TW.seq
  refine TW.loopT [1, 2, 3, 4, 9, 10] (fun m h bs => ∃ (least : Int) (i : Int), sr22_push_L0 k n flow l m least i = some s_ ∧ (h 1 = ints flow ∧ h 2 = lWay l ∧ h 3 = .int .i64 at_ ∧ h 4 = .ptr 0 0 3 ∧ h 9 = .int .i64 least ∧ h 10 = .int .i64 i) ∧ bs = [.cells true 3 [lNodes n.nodes, lLinks n.links, lEdges n.edges]]) ?_ k _ _ ?_
  rotate_left
  ·exact ⟨(-1), at_, H1, kq hh, rfl⟩
  clear hh h H1
  rintro m h bs ⟨least, i, H1, hh, rfl⟩
  rcases m with _ | m
  ·rw [sr22_push_L0] at H1; cases H1
  rw [sr22_push_L0] at H1
  obtain ⟨g1, H1⟩ := isg H1
  repeat apply TW.seq
  refine rk [1, 2, 3, 4, 9, 10, 20] [] (f2 hh (gx_some g1)) ?_
  clear hh h
  intro h hh
  rcases isp H1 with ⟨c2, H1⟩ | ⟨c2, H1⟩
  rotate_left
  ·skip
   repeat apply TW.seq
   refine cf (f2 hh (decide_eq_false c2)) ?_
   refine xk ?_
   cases H1
   exact ce hh ⟨kq hh, rfl⟩
  repeat apply TW.seq
  refine ct (f2 hh (decide_eq_true c2)) ?_
  repeat apply TW.seq
  refine sk ?_
  repeat apply TW.seq
  apply TW.block
  obtain ⟨g3, H1⟩ := isg H1
  obtain ⟨g4, H1⟩ := isg H1
  repeat apply TW.seq
  refine dk 18 [1, 2, 3, 4, 9, 10, 11] [] [] [] (f3 hh (gx_some g1) (f2 (gx_some g3) (gx_some g4))) trivial trivial ?_
  clear hh h
  intro h hh
  repeat apply TW.seq
  refine rk [1, 2, 3, 4, 9, 10, 11, 49] [] (f2 hh (gx_some g1)) ?_
  clear hh h
  intro h hh
  obtain ⟨s_2, H2, H1⟩ := bsome H1
  repeat apply TW.seq
  refine cu [1, 2, 3, 4, 9, 10, 11] 1 (fun h bs => (h 1 = ints flow ∧ h 2 = lWay l ∧ h 3 = .int .i64 at_ ∧ h 4 = .ptr 0 0 3 ∧ h 9 = .int .i64 least ∧ h 10 = .int .i64 i ∧ h 11 = .int .i64 s_2) ∧ bs = [.cells true 3 [lNodes n.nodes, lLinks n.links, lEdges n.edges]]) ?_ ?_
  ·skip
   rcases isb H2 with ⟨c5, H2⟩ | ⟨c5, H2⟩
   rotate_left
   ·skip
    repeat apply TW.seq
    refine cf (f2 hh c5) ?_
    repeat apply TW.seq
    refine sk ?_
    cases H2
    exact ce hh ⟨kq hh, rfl⟩
   repeat apply TW.seq
   refine ct (f2 hh c5) ?_
   repeat apply TW.seq
   refine rk [1, 2, 3, 4, 9, 10, 11] [] (f3 hh c5 (f2 (gx_some g1) (gx_some g4))) ?_
   clear hh h
   intro h hh
   cases H2
   exact ce hh ⟨kq hh, rfl⟩
  clear hh h
  rintro h bs ⟨hh, rfl⟩
  rcases isp H1 with ⟨c6, H1⟩ | ⟨c6, H1⟩
  rotate_left
  ·skip
   repeat apply TW.seq
   refine rk [1, 2, 3, 4, 9, 10, 11, 64] [] (f2 hh (decide_eq_false c6)) ?_
   clear hh h
   intro h hh
   rcases isp H1 with ⟨c7, H1⟩ | ⟨c7, H1⟩
   rotate_left
   ·skip
    repeat apply TW.seq
    refine cf (f2 hh (decide_eq_false c7)) ?_
    repeat apply TW.seq
    refine sk ?_
    repeat apply TW.seq
    refine rk [1, 2, 3, 4, 9, 10] [] (f2 hh (gx_some g1)) ?_
    clear hh h
    intro h hh
    exact rd m hh ⟨least, ((gx l i).before), H1, kq hh, rfl⟩
   repeat apply TW.seq
   refine ct (f2 hh (decide_eq_true c7)) ?_
   repeat apply TW.seq
   refine rk [1, 2, 3, 4, 9, 10] [] hh ?_
   clear hh h
   intro h hh
   repeat apply TW.seq
   refine rk [1, 2, 3, 4, 9, 10] [] (f2 hh (gx_some g1)) ?_
   clear hh h
   intro h hh
   exact rd m hh ⟨s_2, ((gx l i).before), H1, kq hh, rfl⟩
  repeat apply TW.seq
  refine rk [1, 2, 3, 4, 9, 10, 11, 64] [] (f2 hh (decide_eq_true c6)) ?_
  clear hh h
  intro h hh
  repeat apply TW.seq
  refine ct hh ?_
  repeat apply TW.seq
  refine rk [1, 2, 3, 4, 9, 10] [] hh ?_
  clear hh h
  intro h hh
  repeat apply TW.seq
  refine rk [1, 2, 3, 4, 9, 10] [] (f2 hh (gx_some g1)) ?_
  clear hh h
  intro h hh
  exact rd m hh ⟨s_2, ((gx l i).before), H1, kq hh, rfl⟩
 clear hh h
 rintro h bs ⟨hh, rfl⟩
 obtain ⟨s_3, H1, H⟩ := bsome H
 repeat apply TW.seq
 refine cu [2, 3, 9, 12] 2 (fun h bs => ∃ z8, (h 2 = lWay l ∧ h 3 = .int .i64 at_ ∧ h 9 = .int .i64 s_ ∧ h 12 = .arr 1 1 0 s_3.2 s_3.2 s_3.2) ∧ bs = [.cells true 3 [lNodes n.nodes, lLinks n.links, lEdges n.edges], .cells z8 s_3.2 (s_3.1.map (T.int .i64))]) ?_ ?_
 ·skip
  obtain ⟨g9, H1⟩ := isg H1
  rcases isp H1 with ⟨c10, H1⟩ | ⟨c10, H1⟩
  rotate_left
  ·skip
   repeat apply TW.seq
   refine rg [66] [] [.cells true 3 [lNodes n.nodes, lLinks n.links, lEdges n.edges], .cells false flow.length (flow.map (T.int .i64))] (fun h => h 2 = lWay l ∧ h 3 = .int .i64 at_ ∧ h 9 = .int .i64 s_ ∧ h 12 = .arr 1 1 0 flow.length flow.length flow.length) hh trivial ?_
   clear hh h
   intro h hh
   cases H1
   exact ce hh ⟨_, kq hh, rfl⟩
  repeat apply TW.seq
  refine rg [66] [] [.cells true 3 [lNodes n.nodes, lLinks n.links, lEdges n.edges], .cells true 0 ([].map (T.int .i64))] (fun h => h 2 = lWay l ∧ h 3 = .int .i64 at_ ∧ h 9 = .int .i64 s_ ∧ h 12 = .arr 1 1 0 0 0 0) (f2 hh c10) trivial ?_
  clear hh h
  intro h hh
  cases H1
  exact ce hh ⟨_, kq hh, rfl⟩
 clear hh h
 rintro h bs ⟨z8, hh, rfl⟩
 refine uz 1 ?_
 repeat apply TW.seq
 refine rk [2, 9, 12, 13] [] hh ?_
 clear hh h
 intro h hh
 obtain ⟨s_4, H1, H⟩ := bsome H
 repeat apply TW.seq
 refine cu [12] 2 (fun h bs => (h 12 = .arr 1 1 0 s_3.2 s_3.2 s_3.2) ∧ bs = [.cells true 3 [lNodes n.nodes, lLinks n.links, lEdges n.edges], .cells false s_3.2 (s_4.map (T.int .i64))]) ?_ ?_
 ·skip
  repeat apply TW.seq
  apply TW.block
  repeat apply TW.seq
  refine TW.loopT [2, 9, 12, 13] (fun m h bs => ∃ (i2 : Int) (l2 : List Int), sr22_push_L1 k l s_ s_3 m i2 l2 = some s_4 ∧ (h 2 = lWay l ∧ h 9 = .int .i64 s_ ∧ h 12 = .arr 1 1 0 s_3.2 s_3.2 s_3.2 ∧ h 13 = .int .i64 i2) ∧ bs = [.cells true 3 [lNodes n.nodes, lLinks n.links, lEdges n.edges], .cells false s_3.2 (l2.map (T.int .i64))]) ?_ k _ _ ?_
  rotate_left
  ·exact ⟨at_, s_3.1, H1, kq hh, rfl⟩
  clear hh h H1
  rintro m h bs ⟨i2, l2, H1, hh, rfl⟩
  rcases m with _ | m
  ·rw [sr22_push_L1] at H1; cases H1
  rw [sr22_push_L1] at H1
  obtain ⟨g11, H1⟩ := isg H1
  repeat apply TW.seq
  refine rk [2, 9, 12, 13, 75] [] (f2 hh (gx_some g11)) ?_
  clear hh h
  intro h hh
  rcases isp H1 with ⟨c12, H1⟩ | ⟨c12, H1⟩
  rotate_left
  ·skip
   repeat apply TW.seq
   refine cf (f2 hh (decide_eq_false c12)) ?_
   refine xk ?_
   cases H1
   exact ce hh ⟨kq hh, rfl⟩
  repeat apply TW.seq
  refine ct (f2 hh (decide_eq_true c12)) ?_
  repeat apply TW.seq
  refine sk ?_
  repeat apply TW.seq
  apply TW.block
  repeat apply TW.seq
  refine rk [2, 9, 12, 13, 85] [] (f2 hh (gx_some g11)) ?_
  clear hh h
  intro h hh
  rcases isb H1 with ⟨c13, H1⟩ | ⟨c13, H1⟩
  rotate_left
  ·skip
   repeat apply TW.seq
   refine cf (f2 hh c13) ?_
   obtain ⟨g16, H1⟩ := isg H1
   obtain ⟨g17, H1⟩ := isg H1
   repeat apply TW.seq
   refine dk 14 [2, 9, 12, 13] [] [] [] (f3 hh c13 (f3 (gx_some g11) (get_some g17) (fun f v => @spl_map _ _ f _ v g17))) trivial trivial ?_
   clear hh h
   intro h hh
   repeat apply TW.seq
   refine rk [2, 9, 12, 13] [] (f3 hh c13 (gx_some g11)) ?_
   clear hh h
   intro h hh
   exact rd m hh ⟨((gx l i2).before), (l2.set ((gx l i2).link).toNat (IntKind.i64.wrap ((l2.getD ((gx l i2).link).toNat default) + s_))), H1, kq hh, rfl⟩
  repeat apply TW.seq
  refine ct (f2 hh c13) ?_
  obtain ⟨g14, H1⟩ := isg H1
  obtain ⟨g15, H1⟩ := isg H1
  repeat apply TW.seq
  refine dk 14 [2, 9, 12, 13] [] [] [] (f3 hh c13 (f3 (gx_some g11) (get_some g15) (fun f v => @spl_map _ _ f _ v g15))) trivial trivial ?_
  clear hh h
  intro h hh
  repeat apply TW.seq
  refine rk [2, 9, 12, 13] [] (f3 hh c13 (gx_some g11)) ?_
  clear hh h
  intro h hh
  exact rd m hh ⟨((gx l i2).before), (l2.set ((gx l i2).link).toNat (IntKind.i64.wrap ((l2.getD ((gx l i2).link).toNat default) - s_))), H1, kq hh, rfl⟩
 clear hh h
 rintro h bs ⟨hh, rfl⟩
 repeat apply TW.seq
 refine rk [8] [] hh ?_
 clear hh h
 intro h hh
 obtain ⟨g18, H⟩ := isg H
 refine TW.freeze 8 (b := 1) (e := 1) (off := 0) (len := s_3.2) (cap := s_3.2) (M := s_3.2) (s_4.map (T.int .i64)) (kq hh) (by rfl) (by omega) (by omega) (by rw [List.drop_zero, Nat.mul_one, cells_map (fun _ => rfl), List.take_of_length_le (by rw [List.length_map]; omega)]) (fun t ht => by obtain ⟨x, _, rfl⟩ := List.mem_map.1 ht; first | rfl | (rw [List.length_map]; rfl)) (by rw [List.length_map]; exact g18) (by omega) ?_
 rw [st_set _ _ _ (by simp only [lzA] <;> omega)]
 simp only [scA]
 refine gk [8] hh ?_
 clear hh h
 intro h hh
 cases H
 exact rt hh
def sr22_Max_L1 (k : Nat) (n : Net) (to_ : Int) (rways : List Way) : Nat → (List Int) → Bool → Int → Option (List Int × Bool)
 | 0, _, _, _ => none
 | m + 1, flow2, more2, i => (if i < (rways.length : Int) then (if (0 : Int) ≤ i ∧ i < (rways.length : Int) then (if ((gx rways i).node) = to_ then ((sr22_push k n flow2 rways i).bind fun rpush => sr22_Max_L1 k n to_ rways m rpush true (IntKind.i64.wrap (i + 1))) else sr22_Max_L1 k n to_ rways m flow2 more2 (IntKind.i64.wrap (i + 1))) else none) else some (flow2, more2))
def sr22_Max_L0 (k : Nat) (n : Net) (f_ : Failure) (from_ : Int) (to_ : Int) : Nat → (List Int) → Bool → Option (List Int)
 | 0, _, _ => none
 | m + 1, flow, more => (if more = true then ((((sr22_ways k n f_ from_ flow).bind fun rways => ((sr22_Max_L1 k n to_ rways k flow false 0 : Option (List Int × Bool)).bind fun s_4 => some (s_4.1, s_4.2))) : Option (List Int × Bool)).bind fun s_3 => sr22_Max_L0 k n f_ from_ to_ m s_3.1 s_3.2) else some flow)
def sr22_Max_L3 (k : Nat) (rways2 : List Way) (k_ : Int) : Nat → Int → (List Int) → Nat → Option (List Int × Nat)
 | 0, _, _, _ => none
 | m + 1, i2, l2, n3 => (if i2 < (rways2.length : Int) then (if (0 : Int) ≤ i2 ∧ i2 < (rways2.length : Int) then (if ((gx rways2 i2).node) = k_ then (if (n3 + 1) * 9 ≤ 1000000000 then sr22_Max_L3 k rways2 k_ m (IntKind.i64.wrap (i2 + 1)) (l2 ++ [k_]) (n3 + 1) else none) else sr22_Max_L3 k rways2 k_ m (IntKind.i64.wrap (i2 + 1)) l2 n3) else none) else some (l2, n3))
def sr22_Max_L2 (k : Nat) (n : Net) (rways2 : List Way) : Nat → Int → (List Int) → Nat → Option (List Int × Nat)
 | 0, _, _, _ => none
 | m + 1, k_, l, n2 => (if k_ < (n.nodes.length : Int) then ((((sr22_Max_L3 k rways2 k_ k 0 l n2 : Option (List Int × Nat)).bind fun s_7 => some (s_7.1, s_7.2)) : Option (List Int × Nat)).bind fun s_6 => sr22_Max_L2 k n rways2 m (IntKind.i64.wrap (k_ + 1)) s_6.1 s_6.2) else some (l, n2))
def sr22_Max (k : Nat) (n : Net) (f_ : Failure) (from_ : Int) (to_ : Int) : Option (List Int × List Int × Int) := ((sr22_isNode k n from_).bind fun risNode => ((sr22_isNode k n to_).bind fun risNode2 => (((if risNode = true then (if risNode2 = true then some (decide (from_ = to_)) else some true) else some true) : Option Bool).bind fun s_ => (if s_ = true then some ([], [], 1) else (if n.links.length * 9 ≤ 1000000000 then ((sr22_Max_L0 k n f_ from_ to_ k (List.replicate n.links.length 0) true : Option (List Int)).bind fun s_2 => ((sr22_ways k n f_ from_ s_2).bind fun rways2 => ((sr22_Max_L2 k n rways2 k 0 [] 0 : Option (List Int × Nat)).bind fun s_5 => (if s_5.1.length = s_5.2 then some (s_2, s_5.1, 0) else none)))) else none)))))
set_option maxHeartbeats 8000000 in
theorem sr22_Max_ok (ax : Axs) (hx : Plain ax) (k : Nat) (n : Net) (f_ : Failure) (from_ : Int) (to_ : Int) (v : List Int × List Int × Int) (H : sr22_Max k n f_ from_ to_ = some v) : Pure Try.prog (EE ax) [] 26 [eNet n, eFail f_, .int .i64 from_, .int .i64 to_] (tupT [ints v.1, ints v.2.1, .int .i64 v.2.2]) := by
 rw [sr22_Max] at H
 refine enN [.tmp 8, .tmp 9, .tmp 10] 97 [0, 1, 2, 3] (hx.no _ (by decide)) (fn26 ax) ?_
 intro h hh
 repeat apply TW.seq
 refine rk [2, 3, 4, 5] [] hh ?_
 clear hh h
 intro h hh
 obtain ⟨risNode, e1, H⟩ := bsome H
 repeat apply TW.seq
 refine rkc [2, 3, 4, 5, 11] [] [(.bool risNode, stL [.cells true 3 [lNodes n.nodes, lLinks n.links, lEdges n.edges], .cells true 2 [ints f_.links, .int .i64 f_.node]])] hh ?_ ?_
 ·exact ⟨Call0.call ((sr22_isNode_ok ax hx k n from_ risNode e1 ).call _), trivial⟩
 clear hh h
 intro h hh
 obtain ⟨risNode2, e2, H⟩ := bsome H
 repeat apply TW.seq
 refine rkc [2, 3, 4, 5, 11, 12] [] [(.bool risNode2, stL [.cells true 3 [lNodes n.nodes, lLinks n.links, lEdges n.edges], .cells true 2 [ints f_.links, .int .i64 f_.node]])] hh ?_ ?_
 ·exact ⟨Call0.call ((sr22_isNode_ok ax hx k n to_ risNode2 e2 ).call _), trivial⟩
 clear hh h
 intro h hh
 obtain ⟨s_, H1, H⟩ := bsome H
 repeat apply TW.seq
 refine cu [2, 3, 4, 5, 37] 2 (fun h bs => (h 2 = .int .i64 from_ ∧ h 3 = .int .i64 to_ ∧ h 4 = .ptr 0 0 3 ∧ h 5 = .ptr 1 0 2 ∧ h 37 = .bool s_) ∧ bs = [.cells true 3 [lNodes n.nodes, lLinks n.links, lEdges n.edges], .cells true 2 [ints f_.links, .int .i64 f_.node]]) ?_ ?_
 ·skip
  rcases isb H1 with ⟨c3, H1⟩ | ⟨c3, H1⟩
  rotate_left
  ·skip
   repeat apply TW.seq
   refine rk [2, 3, 4, 5, 37] [] (f2 hh c3) ?_
   clear hh h
   intro h hh
   cases H1
   exact ce hh ⟨kq hh, rfl⟩
  rcases isb H1 with ⟨c4, H1⟩ | ⟨c4, H1⟩
  rotate_left
  ·skip
   repeat apply TW.seq
   refine rk [2, 3, 4, 5, 37] [] (f3 hh c3 c4) ?_
   clear hh h
   intro h hh
   cases H1
   exact ce hh ⟨kq hh, rfl⟩
  repeat apply TW.seq
  refine rk [2, 3, 4, 5, 37] [] (f3 hh c3 c4) ?_
  clear hh h
  intro h hh
  cases H1
  exact ce hh ⟨kq hh, rfl⟩
 clear hh h
 rintro h bs ⟨hh, rfl⟩
 rcases isb H with ⟨c5, H⟩ | ⟨c5, H⟩
 rotate_left
 ·skip
  repeat apply TW.seq
  refine cf (f2 hh c5) ?_
  repeat apply TW.seq
  refine sk ?_
  obtain ⟨g6, H⟩ := isg H
  repeat apply TW.seq
  refine rk [2, 3, 4, 5, 13] [] (f2 hh c5) ?_
  clear hh h
  intro h hh
  refine TW.freeze 13 (b := 2) (e := 1) (off := 0) (len := n.links.length) (cap := n.links.length) (M := n.links.length) ((List.replicate n.links.length 0).map (T.int .i64)) (kq hh) (by rfl) (by omega) (by omega) (by rw [List.drop_zero, Nat.mul_one, cells_map (fun _ => rfl), List.take_of_length_le (by rw [List.length_map, List.length_replicate]; omega)]) (fun t ht => by obtain ⟨x, _, rfl⟩ := List.mem_map.1 ht; first | rfl | (rw [List.length_map]; rfl)) (by rw [List.length_map]; exact List.length_replicate) (by omega) ?_
  rw [st_set _ _ _ (by simp only [lzA] <;> omega)]
  simp only [scA]
  refine gk [2, 3, 4, 5, 13] hh ?_
  clear hh h
  intro h hh
  repeat apply TW.seq
  refine rk [2, 3, 4, 5, 13, 14] [] (f2 hh c5) ?_
  clear hh h
  intro h hh
  obtain ⟨s_2, H1, H⟩ := bsome H
  repeat apply TW.seq
  refine cu [2, 4, 5, 13] 3 (fun h bs => (h 2 = .int .i64 from_ ∧ h 4 = .ptr 0 0 3 ∧ h 5 = .ptr 1 0 2 ∧ h 13 = ints s_2) ∧ bs = [.cells true 3 [lNodes n.nodes, lLinks n.links, lEdges n.edges], .cells true 2 [ints f_.links, .int .i64 f_.node], .gone]) ?_ ?_
  ·skip
   repeat apply TW.seq
   apply TW.block
   repeat apply TW.seq
   refine TW.loopT [2, 3, 4, 5, 13, 14] (fun m h bs => ∃ (flow : List Int) (more : Bool), sr22_Max_L0 k n f_ from_ to_ m flow more = some s_2 ∧ (h 2 = .int .i64 from_ ∧ h 3 = .int .i64 to_ ∧ h 4 = .ptr 0 0 3 ∧ h 5 = .ptr 1 0 2 ∧ h 13 = ints flow ∧ h 14 = .bool more) ∧ bs = [.cells true 3 [lNodes n.nodes, lLinks n.links, lEdges n.edges], .cells true 2 [ints f_.links, .int .i64 f_.node], .gone]) ?_ k _ _ ?_
   rotate_left
   ·exact ⟨(List.replicate n.links.length 0), true, H1, kq hh, rfl⟩
   clear hh h H1
   rintro m h bs ⟨flow, more, H1, hh, rfl⟩
   rcases m with _ | m
   ·rw [sr22_Max_L0] at H1; cases H1
   rw [sr22_Max_L0] at H1
   repeat apply TW.seq
   refine rk [2, 3, 4, 5, 13, 42] [] (f2 hh c5) ?_
   clear hh h
   intro h hh
   rcases isb H1 with ⟨c7, H1⟩ | ⟨c7, H1⟩
   rotate_left
   ·skip
    repeat apply TW.seq
    refine cf (f2 hh c7) ?_
    refine xk ?_
    cases H1
    exact ce hh ⟨kq hh, rfl⟩
   repeat apply TW.seq
   refine ct (f2 hh c7) ?_
   repeat apply TW.seq
   refine sk ?_
   obtain ⟨s_3, H2, H1⟩ := bsome H1
   repeat apply TW.seq
   refine cu [2, 3, 4, 5, 13, 14] 3 (fun h bs => (h 2 = .int .i64 from_ ∧ h 3 = .int .i64 to_ ∧ h 4 = .ptr 0 0 3 ∧ h 5 = .ptr 1 0 2 ∧ h 13 = ints s_3.1 ∧ h 14 = .bool s_3.2) ∧ bs = [.cells true 3 [lNodes n.nodes, lLinks n.links, lEdges n.edges], .cells true 2 [ints f_.links, .int .i64 f_.node], .gone]) ?_ ?_
   ·skip
    repeat apply TW.seq
    apply TW.block
    obtain ⟨rways, e8, H2⟩ := bsome H2
    repeat apply TW.seq
    refine rkc [2, 3, 4, 5, 13, 15] [] [(lWay rways, stL [.cells true 3 [lNodes n.nodes, lLinks n.links, lEdges n.edges], .cells true 2 [ints f_.links, .int .i64 f_.node], .gone])] (f3 hh c5 c7) ?_ ?_
    ·exact ⟨Call0.call (Pure.clr (sr22_ways_ok ax hx k n f_ from_ flow rways e8 ) (by first | rfl | simp only [c5, c7])), trivial⟩
    clear hh h
    intro h hh
    repeat apply TW.seq
    refine rk [2, 3, 4, 5, 13, 14, 15] [] (f3 hh c5 c7) ?_
    clear hh h
    intro h hh
    repeat apply TW.seq
    refine rk [2, 3, 4, 5, 13, 14, 15, 16] [] (f3 hh c5 c7) ?_
    clear hh h
    intro h hh
    obtain ⟨s_4, H3, H2⟩ := bsome H2
    repeat apply TW.seq
    refine cu [2, 3, 4, 5, 13, 14] 3 (fun h bs => (h 2 = .int .i64 from_ ∧ h 3 = .int .i64 to_ ∧ h 4 = .ptr 0 0 3 ∧ h 5 = .ptr 1 0 2 ∧ h 13 = ints s_4.1 ∧ h 14 = .bool s_4.2) ∧ bs = [.cells true 3 [lNodes n.nodes, lLinks n.links, lEdges n.edges], .cells true 2 [ints f_.links, .int .i64 f_.node], .gone]) ?_ ?_
    ·skip
     repeat apply TW.seq
     apply TW.block
     repeat apply TW.seq
     refine TW.loopT [2, 3, 4, 5, 13, 14, 15, 16] (fun m h bs => ∃ (flow2 : List Int) (more2 : Bool) (i : Int), sr22_Max_L1 k n to_ rways m flow2 more2 i = some s_4 ∧ (h 2 = .int .i64 from_ ∧ h 3 = .int .i64 to_ ∧ h 4 = .ptr 0 0 3 ∧ h 5 = .ptr 1 0 2 ∧ h 13 = ints flow2 ∧ h 14 = .bool more2 ∧ h 15 = lWay rways ∧ h 16 = .int .i64 i) ∧ bs = [.cells true 3 [lNodes n.nodes, lLinks n.links, lEdges n.edges], .cells true 2 [ints f_.links, .int .i64 f_.node], .gone]) ?_ k _ _ ?_
     rotate_left
     ·exact ⟨flow, false, 0, H3, kq hh, rfl⟩
     clear hh h H3
     rintro m h bs ⟨flow2, more2, i, H3, hh, rfl⟩
     rcases m with _ | m
     ·rw [sr22_Max_L1] at H3; cases H3
     rw [sr22_Max_L1] at H3
     repeat apply TW.seq
     refine rk [2, 3, 4, 5, 13, 14, 15, 16, 51] [] (f3 hh c5 c7) ?_
     clear hh h
     intro h hh
     rcases isp H3 with ⟨c9, H3⟩ | ⟨c9, H3⟩
     rotate_left
     ·skip
      repeat apply TW.seq
      refine cf (f2 hh (decide_eq_false c9)) ?_
      refine xk ?_
      cases H3
      exact ce hh ⟨kq hh, rfl⟩
     repeat apply TW.seq
     refine ct (f2 hh (decide_eq_true c9)) ?_
     repeat apply TW.seq
     refine sk ?_
     repeat apply TW.seq
     apply TW.block
     obtain ⟨g10, H3⟩ := isg H3
     repeat apply TW.seq
     refine rk [2, 3, 4, 5, 13, 14, 15, 16, 60] [] (f3 hh c5 (f2 c7 (gx_some g10))) ?_
     clear hh h
     intro h hh
     rcases isp H3 with ⟨c11, H3⟩ | ⟨c11, H3⟩
     rotate_left
     ·skip
      repeat apply TW.seq
      refine cf (f2 hh (decide_eq_false c11)) ?_
      repeat apply TW.seq
      refine sk ?_
      repeat apply TW.seq
      refine rk [2, 3, 4, 5, 13, 14, 15, 16] [] (f3 hh c5 c7) ?_
      clear hh h
      intro h hh
      exact rd m hh ⟨flow2, more2, (IntKind.i64.wrap (i + 1)), H3, kq hh, rfl⟩
     repeat apply TW.seq
     refine ct (f2 hh (decide_eq_true c11)) ?_
     obtain ⟨rpush, e12, H3⟩ := bsome H3
     repeat apply TW.seq
     refine rkc [2, 3, 4, 5, 13, 15, 16] [] [(ints rpush, stL [.cells true 3 [lNodes n.nodes, lLinks n.links, lEdges n.edges], .cells true 2 [ints f_.links, .int .i64 f_.node], .gone])] (f3 hh c5 c7) ?_ ?_
     ·exact ⟨Call0.call (Pure.clr (sr22_push_ok ax hx k n flow2 rways i rpush e12 ) (by first | rfl | simp only [c5, c7])), trivial⟩
     clear hh h
     intro h hh
     repeat apply TW.seq
     refine rk [2, 3, 4, 5, 13, 14, 15, 16] [] (f3 hh c5 c7) ?_
     clear hh h
     intro h hh
     repeat apply TW.seq
     refine rk [2, 3, 4, 5, 13, 14, 15, 16] [] (f3 hh c5 c7) ?_
     clear hh h
     intro h hh
     exact rd m hh ⟨rpush, true, (IntKind.i64.wrap (i + 1)), H3, kq hh, rfl⟩
    clear hh h
    rintro h bs ⟨hh, rfl⟩
    cases H2
    exact ce hh ⟨kq hh, rfl⟩
   clear hh h
   rintro h bs ⟨hh, rfl⟩
   exact rd m hh ⟨s_3.1, s_3.2, H1, kq hh, rfl⟩
  clear hh h
  rintro h bs ⟨hh, rfl⟩
  repeat apply TW.seq
  refine rk [2, 4, 5, 13, 17] [] (f2 hh c5) ?_
  clear hh h
  intro h hh
  refine vk 17 1 [2, 4, 5, 13, 17] hh ?_
  clear hh h
  intro h hh
  obtain ⟨rways2, e13, H⟩ := bsome H
  repeat apply TW.seq
  refine rkc [4, 13, 17, 18] [] [(lWay rways2, stL [.cells true 3 [lNodes n.nodes, lLinks n.links, lEdges n.edges], .cells true 2 [ints f_.links, .int .i64 f_.node], .gone, .cells false 0 ([].map (T.int .i64))])] (f2 hh c5) ?_ ?_
  ·exact ⟨Call0.call (Pure.clr (sr22_ways_ok ax hx k n f_ from_ s_2 rways2 e13 ) (by first | rfl | simp only [c5])), trivial⟩
  clear hh h
  intro h hh
  repeat apply TW.seq
  refine rk [4, 13, 17, 18, 19] [] (f2 hh c5) ?_
  clear hh h
  intro h hh
  obtain ⟨s_5, H1, H⟩ := bsome H
  repeat apply TW.seq
  refine cu [13, 17] 4 (fun h bs => (h 13 = ints s_2 ∧ h 17 = .arr 3 1 0 s_5.2 s_5.2 s_5.2) ∧ bs = [.cells true 3 [lNodes n.nodes, lLinks n.links, lEdges n.edges], .cells true 2 [ints f_.links, .int .i64 f_.node], .gone, .cells false s_5.2 (s_5.1.map (T.int .i64))]) ?_ ?_
  ·skip
   repeat apply TW.seq
   apply TW.block
   repeat apply TW.seq
   refine TW.loopT [4, 13, 17, 18, 19] (fun m h bs => ∃ (k_ : Int) (l : List Int) (n2 : Nat), sr22_Max_L2 k n rways2 m k_ l n2 = some s_5 ∧ (h 4 = .ptr 0 0 3 ∧ h 13 = ints s_2 ∧ h 17 = .arr 3 1 0 n2 n2 n2 ∧ h 18 = lWay rways2 ∧ h 19 = .int .i64 k_) ∧ bs = [.cells true 3 [lNodes n.nodes, lLinks n.links, lEdges n.edges], .cells true 2 [ints f_.links, .int .i64 f_.node], .gone, .cells false n2 (l.map (T.int .i64))]) ?_ k _ _ ?_
   rotate_left
   ·exact ⟨0, [], 0, H1, kq hh, rfl⟩
   clear hh h H1
   rintro m h bs ⟨k_, l, n2, H1, hh, rfl⟩
   rcases m with _ | m
   ·rw [sr22_Max_L2] at H1; cases H1
   rw [sr22_Max_L2] at H1
   repeat apply TW.seq
   refine rk [4, 13, 17, 18, 19, 75] [] (f2 hh c5) ?_
   clear hh h
   intro h hh
   rcases isp H1 with ⟨c14, H1⟩ | ⟨c14, H1⟩
   rotate_left
   ·skip
    repeat apply TW.seq
    refine cf (f2 hh (decide_eq_false c14)) ?_
    refine xk ?_
    cases H1
    exact ce hh ⟨kq hh, rfl⟩
   repeat apply TW.seq
   refine ct (f2 hh (decide_eq_true c14)) ?_
   repeat apply TW.seq
   refine sk ?_
   obtain ⟨s_6, H2, H1⟩ := bsome H1
   repeat apply TW.seq
   refine cu [4, 13, 17, 18, 19] 4 (fun h bs => (h 4 = .ptr 0 0 3 ∧ h 13 = ints s_2 ∧ h 17 = .arr 3 1 0 s_6.2 s_6.2 s_6.2 ∧ h 18 = lWay rways2 ∧ h 19 = .int .i64 k_) ∧ bs = [.cells true 3 [lNodes n.nodes, lLinks n.links, lEdges n.edges], .cells true 2 [ints f_.links, .int .i64 f_.node], .gone, .cells false s_6.2 (s_6.1.map (T.int .i64))]) ?_ ?_
   ·skip
    repeat apply TW.seq
    apply TW.block
    repeat apply TW.seq
    refine rk [4, 13, 17, 18, 19, 20] [] (f2 hh c5) ?_
    clear hh h
    intro h hh
    obtain ⟨s_7, H3, H2⟩ := bsome H2
    repeat apply TW.seq
    refine cu [4, 13, 17, 18, 19] 4 (fun h bs => (h 4 = .ptr 0 0 3 ∧ h 13 = ints s_2 ∧ h 17 = .arr 3 1 0 s_7.2 s_7.2 s_7.2 ∧ h 18 = lWay rways2 ∧ h 19 = .int .i64 k_) ∧ bs = [.cells true 3 [lNodes n.nodes, lLinks n.links, lEdges n.edges], .cells true 2 [ints f_.links, .int .i64 f_.node], .gone, .cells false s_7.2 (s_7.1.map (T.int .i64))]) ?_ ?_
    ·skip
     repeat apply TW.seq
     apply TW.block
     repeat apply TW.seq
     refine TW.loopT [4, 13, 17, 18, 19, 20] (fun m h bs => ∃ (i2 : Int) (l2 : List Int) (n3 : Nat), sr22_Max_L3 k rways2 k_ m i2 l2 n3 = some s_7 ∧ (h 4 = .ptr 0 0 3 ∧ h 13 = ints s_2 ∧ h 17 = .arr 3 1 0 n3 n3 n3 ∧ h 18 = lWay rways2 ∧ h 19 = .int .i64 k_ ∧ h 20 = .int .i64 i2) ∧ bs = [.cells true 3 [lNodes n.nodes, lLinks n.links, lEdges n.edges], .cells true 2 [ints f_.links, .int .i64 f_.node], .gone, .cells false n3 (l2.map (T.int .i64))]) ?_ k _ _ ?_
     rotate_left
     ·exact ⟨0, l, n2, H3, kq hh, rfl⟩
     clear hh h H3
     rintro m h bs ⟨i2, l2, n3, H3, hh, rfl⟩
     rcases m with _ | m
     ·rw [sr22_Max_L3] at H3; cases H3
     rw [sr22_Max_L3] at H3
     repeat apply TW.seq
     refine rk [4, 13, 17, 18, 19, 20, 81] [] (f2 hh c5) ?_
     clear hh h
     intro h hh
     rcases isp H3 with ⟨c15, H3⟩ | ⟨c15, H3⟩
     rotate_left
     ·skip
      repeat apply TW.seq
      refine cf (f2 hh (decide_eq_false c15)) ?_
      refine xk ?_
      cases H3
      exact ce hh ⟨kq hh, rfl⟩
     repeat apply TW.seq
     refine ct (f2 hh (decide_eq_true c15)) ?_
     repeat apply TW.seq
     refine sk ?_
     repeat apply TW.seq
     apply TW.block
     obtain ⟨g16, H3⟩ := isg H3
     repeat apply TW.seq
     refine rk [4, 13, 17, 18, 19, 20, 90] [] (f3 hh c5 (gx_some g16)) ?_
     clear hh h
     intro h hh
     rcases isp H3 with ⟨c17, H3⟩ | ⟨c17, H3⟩
     rotate_left
     ·skip
      repeat apply TW.seq
      refine cf (f2 hh (decide_eq_false c17)) ?_
      repeat apply TW.seq
      refine sk ?_
      repeat apply TW.seq
      refine rk [4, 13, 17, 18, 19, 20] [] (f2 hh c5) ?_
      clear hh h
      intro h hh
      exact rd m hh ⟨(IntKind.i64.wrap (i2 + 1)), l2, n3, H3, kq hh, rfl⟩
     repeat apply TW.seq
     refine ct (f2 hh (decide_eq_true c17)) ?_
     obtain ⟨g18, H3⟩ := isg H3
     repeat apply TW.seq
     refine rg [] [] [.cells true 3 [lNodes n.nodes, lLinks n.links, lEdges n.edges], .cells true 2 [ints f_.links, .int .i64 f_.node], .gone, .cells false (n3 + 1) ((l2 ++ [k_]).map (T.int .i64))] (fun h => h 4 = .ptr 0 0 3 ∧ h 13 = ints s_2 ∧ h 17 = .arr 3 1 0 (n3 + 1) (n3 + 1) (n3 + 1) ∧ h 18 = lWay rways2 ∧ h 19 = .int .i64 k_ ∧ h 20 = .int .i64 i2) (f2 hh c5) trivial ?_
     clear hh h
     intro h hh
     repeat apply TW.seq
     refine rk [4, 13, 17, 18, 19, 20] [] (f2 hh c5) ?_
     clear hh h
     intro h hh
     exact rd m hh ⟨(IntKind.i64.wrap (i2 + 1)), (l2 ++ [k_]), (n3 + 1), H3, kq hh, rfl⟩
    clear hh h
    rintro h bs ⟨hh, rfl⟩
    cases H2
    exact ce hh ⟨kq hh, rfl⟩
   clear hh h
   rintro h bs ⟨hh, rfl⟩
   repeat apply TW.seq
   refine rk [4, 13, 17, 18, 19] [] (f2 hh c5) ?_
   clear hh h
   intro h hh
   exact rd m hh ⟨(IntKind.i64.wrap (k_ + 1)), s_6.1, s_6.2, H1, kq hh, rfl⟩
  clear hh h
  rintro h bs ⟨hh, rfl⟩
  repeat apply TW.seq
  refine rk [8, 9, 10] [] (f2 hh c5) ?_
  clear hh h
  intro h hh
  obtain ⟨g19, H⟩ := isg H
  refine TW.freeze 9 (b := 3) (e := 1) (off := 0) (len := s_5.2) (cap := s_5.2) (M := s_5.2) (s_5.1.map (T.int .i64)) (kq hh) (by rfl) (by omega) (by omega) (by rw [List.drop_zero, Nat.mul_one, cells_map (fun _ => rfl), List.take_of_length_le (by rw [List.length_map]; omega)]) (fun t ht => by obtain ⟨x, _, rfl⟩ := List.mem_map.1 ht; first | rfl | (rw [List.length_map]; rfl)) (by rw [List.length_map]; exact g19) (by omega) ?_
  rw [st_set _ _ _ (by simp only [lzA] <;> omega)]
  simp only [scA]
  refine gk [8, 9, 10] hh ?_
  clear hh h
  intro h hh
  cases H
  exact rt hh
 repeat apply TW.seq
 refine ct (f2 hh c5) ?_
 repeat apply TW.seq
 refine rk [8, 9, 10] [] (f2 hh c5) ?_
 clear hh h
 intro h hh
 refine nk 8 1 [8, 9, 10] hh ?_
 clear hh h
 intro h hh
 refine nk 9 1 [8, 9, 10] hh ?_
 clear hh h
 intro h hh
 cases H
 exact rt hh
def sr22_Value (k : Nat) (n : Net) (f_ : Failure) (from_ : Int) (to_ : Int) : Option Int := ((sr22_Max k n f_ from_ to_).bind fun rMax => ((sr22_Check k n f_ from_ to_ rMax.1).bind fun rCheck => some rCheck.1))
set_option maxHeartbeats 8000000 in
theorem sr22_Value_ok (ax : Axs) (hx : Plain ax) (k : Nat) (n : Net) (f_ : Failure) (from_ : Int) (to_ : Int) (v : Int) (H : sr22_Value k n f_ from_ to_ = some v) : Pure Try.prog (EE ax) [] 30 [eNet n, eFail f_, .int .i64 from_, .int .i64 to_] (.int .i64 v) := by
 rw [sr22_Value] at H
 refine en [.tmp 8] 33 [0, 1, 2, 3] (hx.no _ (by decide)) (fn30 ax) ?_
 intro h hh
 repeat apply TW.seq
 refine rk [2, 3, 4, 5] [] hh ?_
 clear hh h
 intro h hh
 obtain ⟨rMax, e1, H⟩ := bsome H
 repeat apply TW.seq
 refine rkc [2, 3, 4, 5, 9] [] [(.tup [ints rMax.1, ints rMax.2.1, .int .i64 rMax.2.2], stL [.cells true 3 [lNodes n.nodes, lLinks n.links, lEdges n.edges], .cells true 2 [ints f_.links, .int .i64 f_.node]])] hh ?_ ?_
 ·exact ⟨Call0.call ((sr22_Max_ok ax hx k n f_ from_ to_ rMax e1 ).call _), trivial⟩
 clear hh h
 intro h hh
 obtain ⟨rCheck, e2, H⟩ := bsome H
 repeat apply TW.seq
 refine rkc [12] [] [(.tup [.int .i64 rCheck.1, .bool rCheck.2], stL [.cells true 3 [lNodes n.nodes, lLinks n.links, lEdges n.edges], .cells true 2 [ints f_.links, .int .i64 f_.node]])] hh ?_ ?_
 ·exact ⟨Call0.call ((sr22_Check_ok ax hx k n f_ from_ to_ rMax.1 rCheck e2 ).call _), trivial⟩
 clear hh h
 intro h hh
 repeat apply TW.seq
 refine rk [8] [] hh ?_
 clear hh h
 intro h hh
 cases H
 exact rt hh
end Go.Proofs.Ytfalnphlgfoflaa