/- Functions as plain functions, and that the code computes them. -/
import Derived.Test.YtfalnphlgfoflaaSB
namespace Go.Proofs.Ytfalnphlgfoflaa
open Go Go.RowKit
set_option linter.unusedSimpArgs false
set_option linter.unusedVariables false
set_option linter.unusedSectionVars false
set_option maxRecDepth 100000
def sflow_reached_1 (k : Nat) (a : Int) (a2 : Bool) : Option Unit := some (⟨⟩ : Unit)
set_option maxHeartbeats 8000000 in
theorem sflow_reached_1_ok (ax : Axs) (hx : Plain ax) (k : Nat) (a : Int) (a2 : Bool) (v : Unit) (H : sflow_reached_1 k a a2 = some v) : Pure Try.prog (EE ax) [] 67 [.int .i64 a, .bool a2] (eUnit v) := by
 rw [sflow_reached_1] at H
 refine en [.cell 4 74] 6 [] (hx.no _ (by decide)) (fn67 ax) ?_
 intro h hh
 repeat apply TW.seq
 refine rk [4] [] hh ?_
 clear hh h
 intro h hh
 repeat apply TW.seq
 refine rk [4] [] hh ?_
 clear hh h
 intro h hh
 cases H
 exact rtc hh
def sflow_arcsU_b_L0 (k : Nat) (n0 : Nat) (n : Net) (f_ : Failure) (l0 : List Int) : Nat → Int → (List ArcU) → Nat → Option (List ArcU × Nat)
 | 0, _, _, _ => none
 | m + 1, i, l, n2 => (if i < (n.links.length : Int) then (if (0 : Int) ≤ i ∧ i < (n.links.length : Int) then ((sgraph_Up k n f_ i).bind fun rUp => (if rUp = true then (if (0 : Int) ≤ i ∧ i < (n0 : Int) then (if i.toNat < l0.length then (((if (l0.getD i.toNat default) < ((gx n.links i).cap) then ((sflow_reached_1 k i false).bind fun r1 => (if (n2 + 1) * 41 ≤ 1000000000 then some (l ++ [(⟨i, (gx n.links i).frm, (gx n.links i).to, IntKind.i64.wrap (((gx n.links i).cap) - (l0.getD i.toNat default)), false, r1⟩ : ArcU)], n2 + 1) else none)) else some (l, n2)) : Option (List ArcU × Nat)).bind fun s_2 => (if 0 < (l0.getD i.toNat default) then ((sflow_reached_1 k i true).bind fun r12 => (if (s_2.2 + 1) * 41 ≤ 1000000000 then sflow_arcsU_b_L0 k n0 n f_ l0 m (IntKind.i64.wrap (i + 1)) (s_2.1 ++ [(⟨i, (gx n.links i).to, (gx n.links i).frm, l0.getD i.toNat default, true, r12⟩ : ArcU)]) (s_2.2 + 1) else none)) else sflow_arcsU_b_L0 k n0 n f_ l0 m (IntKind.i64.wrap (i + 1)) s_2.1 s_2.2)) else none) else none) else sflow_arcsU_b_L0 k n0 n f_ l0 m (IntKind.i64.wrap (i + 1)) l n2)) else none) else some (l, n2))
def sflow_arcsU_b (k : Nat) (n0 : Nat) (n : Net) (f_ : Failure) (l0 : List Int) : Option (List ArcU) := ((sflow_arcsU_b_L0 k n0 n f_ l0 k 0 [] 0 : Option (List ArcU × Nat)).bind fun s_ => (if s_.1.length = s_.2 then some s_.1 else none))
set_option maxHeartbeats 8000000 in
theorem sflow_arcsU_b_ok (ax : Axs) (hx : Plain ax) (k : Nat) (n0 : Nat) (n : Net) (f_ : Failure) (l0 : List Int) (v : List ArcU) (H : sflow_arcsU_b k n0 n f_ l0 = some v) : Call Try.prog (EE ax) [] 66 [eNet n, eFail f_, .arr 0 1 0 n0 n0 n0, .fn 67 [] []] (stL [.cells true n0 (l0.map (T.int .i64))]) (tupT [lArcU v]) (stL [.cells true n0 (l0.map (T.int .i64))]) := by
 rw [sflow_arcsU_b] at H
 refine enB [.tmp 8] 74 [0, 1, 2, 3] (hx.no _ (by decide)) (fn66 ax) ?_
 intro h hh
 repeat apply TW.seq
 refine rk [2, 3, 4, 5] [] hh ?_
 clear hh h
 intro h hh
 repeat apply TW.seq
 refine rk [2, 3, 4, 5, 9] [] hh ?_
 clear hh h
 intro h hh
 refine vk 9 5 [2, 3, 4, 5, 9] hh ?_
 clear hh h
 intro h hh
 repeat apply TW.seq
 refine rk [2, 3, 4, 5, 9, 13, 14, 15] [] hh ?_
 clear hh h
 intro h hh
 obtain ⟨s_, H1, H⟩ := bsome H
 repeat apply TW.seq
 refine cu [9] 4 (fun h bs => (h 9 = .arr 3 5 0 s_.2 s_.2 (s_.2 * 5)) ∧ bs = [.cells true n0 (l0.map (T.int .i64)), .cells true 3 [lNodes n.nodes, lLinks n.links, lEdges n.edges], .cells true 2 [ints f_.links, .int .i64 f_.node], .cells false (s_.2 * 5) (vecC eArcU s_.1)]) ?_ ?_
 ·skip
  repeat apply TW.seq
  apply TW.block
  repeat apply TW.seq
  refine TW.loopT [2, 3, 4, 5, 9, 13, 14, 15] (fun m h bs => ∃ (i : Int) (l : List ArcU) (n2 : Nat), sflow_arcsU_b_L0 k n0 n f_ l0 m i l n2 = some s_ ∧ (h 2 = .arr 0 1 0 n0 n0 n0 ∧ h 3 = .fn 67 [] [] ∧ h 4 = .ptr 1 0 3 ∧ h 5 = .ptr 2 0 2 ∧ h 9 = .arr 3 5 0 n2 n2 (n2 * 5) ∧ h 13 = lLinks n.links ∧ h 14 = .int .i64 (n.links.length : Int) ∧ h 15 = .int .i64 i) ∧ bs = [.cells true n0 (l0.map (T.int .i64)), .cells true 3 [lNodes n.nodes, lLinks n.links, lEdges n.edges], .cells true 2 [ints f_.links, .int .i64 f_.node], .cells false (n2 * 5) (vecC eArcU l)]) ?_ k _ _ ?_
  rotate_left
  ·exact ⟨0, [], 0, H1, kq hh, rfl⟩
  clear hh h H1
  rintro m h bs ⟨i, l, n2, H1, hh, rfl⟩
  rcases m with _ | m
  ·rw [sflow_arcsU_b_L0] at H1; cases H1
  rw [sflow_arcsU_b_L0] at H1
  repeat apply TW.seq
  refine rk [2, 3, 4, 5, 9, 13, 14, 15, 16] [] hh ?_
  clear hh h
  intro h hh
  rcases isp H1 with ⟨c1, H1⟩ | ⟨c1, H1⟩
  rotate_left
  ·skip
   repeat apply TW.seq
   refine cf (f2 hh (decide_eq_false c1)) ?_
   refine xk ?_
   cases H1
   exact ce hh ⟨kq hh, rfl⟩
  repeat apply TW.seq
  refine ct (f2 hh (decide_eq_true c1)) ?_
  repeat apply TW.seq
  refine sk ?_
  repeat apply TW.seq
  apply TW.block
  obtain ⟨g2, H1⟩ := isg H1
  repeat apply TW.seq
  refine rk [2, 3, 4, 5, 9, 10, 11, 13, 14, 15] [] (f2 hh (gx_some g2)) ?_
  clear hh h
  intro h hh
  obtain ⟨rUp, e3, H1⟩ := bsome H1
  repeat apply TW.seq
  refine rkc [2, 3, 4, 5, 9, 10, 11, 13, 14, 15, 24] [] [(.bool rUp, stL [.cells true n0 (l0.map (T.int .i64)), .cells true 3 [lNodes n.nodes, lLinks n.links, lEdges n.edges], .cells true 2 [ints f_.links, .int .i64 f_.node], .cells false (n2 * 5) (vecC eArcU l), .cells true 3 [.int .i64 ((gx n.links i).frm), .int .i64 ((gx n.links i).to), .int .i64 ((gx n.links i).cap)]])] hh ?_ ?_
  ·exact ⟨Call0.call ((sgraph_Up_ok ax hx k n f_ i rUp e3 ).call _), trivial⟩
  clear hh h
  intro h hh
  rcases isb H1 with ⟨c4, H1⟩ | ⟨c4, H1⟩
  rotate_left
  ·skip
   repeat apply TW.seq
   refine ct (f2 hh c4) ?_
   refine xk ?_
   repeat apply TW.seq
   refine rk [2, 3, 4, 5, 9, 13, 14, 15] [] (f2 hh c4) ?_
   clear hh h
   intro h hh
   exact rd m hh ⟨(IntKind.i64.wrap (i + 1)), l, n2, H1, kq hh, rfl⟩
  repeat apply TW.seq
  refine cf (f2 hh c4) ?_
  repeat apply TW.seq
  refine sk ?_
  obtain ⟨g5, H1⟩ := isg H1
  obtain ⟨g6, H1⟩ := isg H1
  repeat apply TW.seq
  refine dk 6 [2, 3, 4, 5, 9, 10, 11, 13, 14, 15, 31] [] [] [] (f3 hh c4 (get_some g6)) trivial trivial ?_
  clear hh h
  intro h hh
  obtain ⟨s_2, H2, H1⟩ := bsome H1
  repeat apply TW.seq
  refine cu [2, 3, 4, 5, 9, 10, 11, 13, 14, 15] 5 (fun h bs => (h 2 = .arr 0 1 0 n0 n0 n0 ∧ h 3 = .fn 67 [] [] ∧ h 4 = .ptr 1 0 3 ∧ h 5 = .ptr 2 0 2 ∧ h 9 = .arr 3 5 0 s_2.2 s_2.2 (s_2.2 * 5) ∧ h 10 = .int .i64 i ∧ h 11 = .ptr 4 0 3 ∧ h 13 = lLinks n.links ∧ h 14 = .int .i64 (n.links.length : Int) ∧ h 15 = .int .i64 i) ∧ bs = [.cells true n0 (l0.map (T.int .i64)), .cells true 3 [lNodes n.nodes, lLinks n.links, lEdges n.edges], .cells true 2 [ints f_.links, .int .i64 f_.node], .cells false (s_2.2 * 5) (vecC eArcU s_2.1), .cells true 3 [.int .i64 ((gx n.links i).frm), .int .i64 ((gx n.links i).to), .int .i64 ((gx n.links i).cap)]]) ?_ ?_
  ·skip
   rcases isp H2 with ⟨c7, H2⟩ | ⟨c7, H2⟩
   rotate_left
   ·skip
    repeat apply TW.seq
    refine cf (f2 hh (decide_eq_false c7)) ?_
    repeat apply TW.seq
    refine sk ?_
    cases H2
    exact ce hh ⟨kq hh, rfl⟩
   repeat apply TW.seq
   refine ct (f2 hh (decide_eq_true c7)) ?_
   obtain ⟨r1, e8, H2⟩ := bsome H2
   obtain ⟨g9, H2⟩ := isg H2
   repeat apply TW.seq
   refine dg 16 [eUnit r1] [] [] [.cells true n0 (l0.map (T.int .i64)), .cells true 3 [lNodes n.nodes, lLinks n.links, lEdges n.edges], .cells true 2 [ints f_.links, .int .i64 f_.node], .cells false ((n2 + 1) * 5) (vecC eArcU (l ++ [(⟨i, (gx n.links i).frm, (gx n.links i).to, IntKind.i64.wrap (((gx n.links i).cap) - (l0.getD i.toNat default)), false, r1⟩ : ArcU)])), .cells true 3 [.int .i64 ((gx n.links i).frm), .int .i64 ((gx n.links i).to), .int .i64 ((gx n.links i).cap)]] (fun h => h 2 = .arr 0 1 0 n0 n0 n0 ∧ h 3 = .fn 67 [] [] ∧ h 4 = .ptr 1 0 3 ∧ h 5 = .ptr 2 0 2 ∧ h 9 = .arr 3 5 0 (n2 + 1) (n2 + 1) ((n2 + 1) * 5) ∧ h 10 = .int .i64 i ∧ h 11 = .ptr 4 0 3 ∧ h 13 = lLinks n.links ∧ h 14 = .int .i64 (n.links.length : Int) ∧ h 15 = .int .i64 i) (f3 hh c4 (get_some g6)) ?_ trivial ?_
   ·exact ⟨Pure.clr (sflow_reached_1_ok ax hx k i false r1 e8 ) (by first | rfl | simp only [c4]), trivial⟩
   clear hh h
   intro h hh
   cases H2
   exact ce hh ⟨kq hh, rfl⟩
  clear hh h
  rintro h bs ⟨hh, rfl⟩
  repeat apply TW.seq
  refine rk [2, 3, 4, 5, 9, 10, 11, 13, 14, 15, 55] [] (f3 hh c4 (get_some g6)) ?_
  clear hh h
  intro h hh
  rcases isp H1 with ⟨c10, H1⟩ | ⟨c10, H1⟩
  rotate_left
  ·skip
   repeat apply TW.seq
   refine cf (f2 hh (decide_eq_false c10)) ?_
   repeat apply TW.seq
   refine sk ?_
   repeat apply TW.seq
   refine rk [2, 3, 4, 5, 9, 13, 14, 15] [] (f2 hh c4) ?_
   clear hh h
   intro h hh
   exact rd m hh ⟨(IntKind.i64.wrap (i + 1)), s_2.1, s_2.2, H1, kq hh, rfl⟩
  repeat apply TW.seq
  refine ct (f2 hh (decide_eq_true c10)) ?_
  obtain ⟨r12, e11, H1⟩ := bsome H1
  obtain ⟨g12, H1⟩ := isg H1
  repeat apply TW.seq
  refine dg 13 [eUnit r12] [] [] [.cells true n0 (l0.map (T.int .i64)), .cells true 3 [lNodes n.nodes, lLinks n.links, lEdges n.edges], .cells true 2 [ints f_.links, .int .i64 f_.node], .cells false ((s_2.2 + 1) * 5) (vecC eArcU (s_2.1 ++ [(⟨i, (gx n.links i).to, (gx n.links i).frm, l0.getD i.toNat default, true, r12⟩ : ArcU)])), .cells true 3 [.int .i64 ((gx n.links i).frm), .int .i64 ((gx n.links i).to), .int .i64 ((gx n.links i).cap)]] (fun h => h 2 = .arr 0 1 0 n0 n0 n0 ∧ h 3 = .fn 67 [] [] ∧ h 4 = .ptr 1 0 3 ∧ h 5 = .ptr 2 0 2 ∧ h 9 = .arr 3 5 0 (s_2.2 + 1) (s_2.2 + 1) ((s_2.2 + 1) * 5) ∧ h 13 = lLinks n.links ∧ h 14 = .int .i64 (n.links.length : Int) ∧ h 15 = .int .i64 i) (f3 hh c4 (get_some g6)) ?_ trivial ?_
  ·exact ⟨Pure.clr (sflow_reached_1_ok ax hx k i true r12 e11 ) (by first | rfl | simp only [c4]), trivial⟩
  clear hh h
  intro h hh
  repeat apply TW.seq
  refine rk [2, 3, 4, 5, 9, 13, 14, 15] [] (f2 hh c4) ?_
  clear hh h
  intro h hh
  exact rd m hh ⟨(IntKind.i64.wrap (i + 1)), (s_2.1 ++ [(⟨i, (gx n.links i).to, (gx n.links i).frm, l0.getD i.toNat default, true, r12⟩ : ArcU)]), (s_2.2 + 1), H1, kq hh, rfl⟩
 clear hh h
 rintro h bs ⟨hh, rfl⟩
 repeat apply TW.seq
 refine rk [8] [] hh ?_
 clear hh h
 intro h hh
 obtain ⟨g13, H⟩ := isg H
 refine TW.freeze 8 (b := 3) (e := 5) (off := 0) (len := s_.2) (cap := s_.2) (M := (s_.2 * 5)) (s_.1.map eArcU) (kq hh) (by rfl) (by omega) (by omega) (by rw [List.drop_zero]; exact vecC_take (fun _ => rfl) g13) (fun t ht => by obtain ⟨x, _, rfl⟩ := List.mem_map.1 ht; first | rfl | (rw [List.length_map]; rfl)) (by rw [List.length_map]; exact g13) (by omega) ?_
 rw [st_set _ _ _ (by simp only [lzA] <;> omega)]
 simp only [scA]
 refine gk [8] hh ?_
 clear hh h
 intro h hh
 cases H
 exact rtB hh
def sflow_reached_2_b1_L0 (k : Nat) (n3 : Nat) (n4 : Nat) (at_ : Int) (a : List ArcU) : Nat → Int → (List Bool) → (List (Option ArcU)) → (List Int) → Nat → Option (List Bool × List (Option ArcU) × List Int × Nat)
 | 0, _, _, _, _, _ => none
 | m + 1, i, l, l2, l6, n => (if i < (a.length : Int) then (if (0 : Int) ≤ i ∧ i < (a.length : Int) then (((if ((gx a i).frm) = at_ then (if (0 : Int) ≤ ((gx a i).to) ∧ ((gx a i).to) < (n3 : Int) then (if ((gx a i).to).toNat < l.length then some (!(l.getD ((gx a i).to).toNat default)) else none) else none) else some false) : Option Bool).bind fun s_2 => (if s_2 = true then (if (0 : Int) ≤ ((gx a i).to) ∧ ((gx a i).to) < (n3 : Int) then (if ((gx a i).to).toNat < l.length then (if (0 : Int) ≤ ((gx a i).to) ∧ ((gx a i).to) < (n4 : Int) then (if ((gx a i).to).toNat < l2.length then (if (n + 1) * 9 ≤ 1000000000 then sflow_reached_2_b1_L0 k n3 n4 at_ a m (IntKind.i64.wrap (i + 1)) (l.set ((gx a i).to).toNat true) (l2.set ((gx a i).to).toNat (some (gx a i))) (l6 ++ [(gx a i).to]) (n + 1) else none) else none) else none) else none) else none) else sflow_reached_2_b1_L0 k n3 n4 at_ a m (IntKind.i64.wrap (i + 1)) l l2 l6 n)) else none) else some (l, l2, l6, n))
def sflow_reached_2_b1 (k : Nat) (n3 : Nat) (n4 : Nat) (n5 : Nat) (at_ : Int) (a : List ArcU) (l3 : List Bool) (l4 : List (Option ArcU)) (l5 : List Int) : Option (List Bool × List (Option ArcU) × List Int × Nat) := ((sflow_reached_2_b1_L0 k n3 n4 at_ a k 0 l3 l4 l5 n5 : Option (List Bool × List (Option ArcU) × List Int × Nat)).bind fun s_ => some (s_.1, s_.2.1, s_.2.2.1, s_.2.2.2))
set_option maxHeartbeats 8000000 in
theorem sflow_reached_2_b1_ok (ax : Axs) (hx : Plain ax) (k : Nat) (n3 : Nat) (n4 : Nat) (n5 : Nat) (at_ : Int) (a : List ArcU) (l3 : List Bool) (l4 : List (Option ArcU)) (l5 : List Int) (v : List Bool × List (Option ArcU) × List Int × Nat) (H : sflow_reached_2_b1 k n3 n4 n5 at_ a l3 l4 l5 = some v) : Call Try.prog (EE ax) [] 68 [.int .i64 at_, .cp [lArcU a], .ptr 0 0 1, .ptr 1 0 1, .ptr 2 0 1] (stL [.cells true 1 [.arr 3 1 0 n3 n3 n3], .cells true 1 [.arr 4 1 0 n4 n4 n4], .cells true 1 [.arr 5 1 0 n5 n5 n5], .cells true n3 (l3.map T.bool), .cells true n4 (l4.map pArcU), .cells false n5 (l5.map (T.int .i64))]) (tupT []) (stL [.cells true 1 [.arr 3 1 0 n3 n3 n3], .cells true 1 [.arr 4 1 0 n4 n4 n4], .cells true 1 [.arr 5 1 0 v.2.2.2 v.2.2.2 v.2.2.2], .cells true n3 (v.1.map T.bool), .cells true n4 (v.2.1.map pArcU), .cells false v.2.2.2 (v.2.2.1.map (T.int .i64))]) := by
 rw [sflow_reached_2_b1] at H
 refine enB [] 53 [0, 1, 2, 3, 4] (hx.no _ (by decide)) (fn68 ax) ?_
 intro h hh
 repeat apply TW.seq
 refine rk [0, 1, 2, 3, 4, 9, 10] [] hh ?_
 clear hh h
 intro h hh
 obtain ⟨s_, H1, H⟩ := bsome H
 repeat apply TW.seq
 refine cu [] 6 (fun h bs => (True) ∧ bs = [.cells true 1 [.arr 3 1 0 n3 n3 n3], .cells true 1 [.arr 4 1 0 n4 n4 n4], .cells true 1 [.arr 5 1 0 s_.2.2.2 s_.2.2.2 s_.2.2.2], .cells true n3 (s_.1.map T.bool), .cells true n4 (s_.2.1.map pArcU), .cells false s_.2.2.2 (s_.2.2.1.map (T.int .i64))]) ?_ ?_
 ·skip
  repeat apply TW.seq
  apply TW.block
  repeat apply TW.seq
  refine TW.loopT [0, 1, 2, 3, 4, 9, 10] (fun m h bs => ∃ (i : Int) (l : List Bool) (l2 : List (Option ArcU)) (l6 : List Int) (n : Nat), sflow_reached_2_b1_L0 k n3 n4 at_ a m i l l2 l6 n = some s_ ∧ (h 0 = .int .i64 at_ ∧ h 1 = .cp [lArcU a] ∧ h 2 = .ptr 0 0 1 ∧ h 3 = .ptr 1 0 1 ∧ h 4 = .ptr 2 0 1 ∧ h 9 = .int .i64 (a.length : Int) ∧ h 10 = .int .i64 i) ∧ bs = [.cells true 1 [.arr 3 1 0 n3 n3 n3], .cells true 1 [.arr 4 1 0 n4 n4 n4], .cells true 1 [.arr 5 1 0 n n n], .cells true n3 (l.map T.bool), .cells true n4 (l2.map pArcU), .cells false n (l6.map (T.int .i64))]) ?_ k _ _ ?_
  rotate_left
  ·exact ⟨0, l3, l4, l5, n5, H1, kq hh, rfl⟩
  clear hh h H1
  rintro m h bs ⟨i, l, l2, l6, n, H1, hh, rfl⟩
  rcases m with _ | m
  ·rw [sflow_reached_2_b1_L0] at H1; cases H1
  rw [sflow_reached_2_b1_L0] at H1
  repeat apply TW.seq
  refine rk [0, 1, 2, 3, 4, 9, 10, 11] [] hh ?_
  clear hh h
  intro h hh
  rcases isp H1 with ⟨c1, H1⟩ | ⟨c1, H1⟩
  rotate_left
  ·skip
   repeat apply TW.seq
   refine cf (f2 hh (decide_eq_false c1)) ?_
   refine xk ?_
   cases H1
   exact ce hh ⟨kq hh, rfl⟩
  repeat apply TW.seq
  refine ct (f2 hh (decide_eq_true c1)) ?_
  repeat apply TW.seq
  refine sk ?_
  repeat apply TW.seq
  apply TW.block
  repeat apply TW.seq
  refine rk [0, 1, 2, 3, 4, 6, 9, 10] [] hh ?_
  clear hh h
  intro h hh
  obtain ⟨g2, H1⟩ := isg H1
  repeat apply TW.seq
  refine rk [0, 1, 2, 3, 4, 7, 9, 10] [] (f2 hh (gx_some g2)) ?_
  clear hh h
  intro h hh
  obtain ⟨s_2, H2, H1⟩ := bsome H1
  repeat apply TW.seq
  refine cu [0, 1, 2, 3, 4, 7, 9, 10, 31] 6 (fun h bs => (h 0 = .int .i64 at_ ∧ h 1 = .cp [lArcU a] ∧ h 2 = .ptr 0 0 1 ∧ h 3 = .ptr 1 0 1 ∧ h 4 = .ptr 2 0 1 ∧ h 7 = .cp [.int .i64 ((gx a i).link), .int .i64 ((gx a i).frm), .int .i64 ((gx a i).to), .int .i64 ((gx a i).room), .bool ((gx a i).back)] ∧ h 9 = .int .i64 (a.length : Int) ∧ h 10 = .int .i64 i ∧ h 31 = .bool s_2) ∧ bs = [.cells true 1 [.arr 3 1 0 n3 n3 n3], .cells true 1 [.arr 4 1 0 n4 n4 n4], .cells true 1 [.arr 5 1 0 n n n], .cells true n3 (l.map T.bool), .cells true n4 (l2.map pArcU), .cells false n (l6.map (T.int .i64))]) ?_ ?_
  ·skip
   rcases isp H2 with ⟨c3, H2⟩ | ⟨c3, H2⟩
   rotate_left
   ·skip
    repeat apply TW.seq
    refine dk 12 [0, 1, 2, 3, 4, 7, 9, 10, 31] [] [] [] (f2 hh (decide_eq_false c3)) trivial trivial ?_
    clear hh h
    intro h hh
    cases H2
    exact ce hh ⟨kq hh, rfl⟩
   obtain ⟨g4, H2⟩ := isg H2
   obtain ⟨g5, H2⟩ := isg H2
   repeat apply TW.seq
   refine dk 12 [0, 1, 2, 3, 4, 7, 9, 10, 31] [] [] [] (f3 hh (decide_eq_true c3) (get_some g5)) trivial trivial ?_
   clear hh h
   intro h hh
   cases H2
   exact ce hh ⟨kq hh, rfl⟩
  clear hh h
  rintro h bs ⟨hh, rfl⟩
  rcases isb H1 with ⟨c6, H1⟩ | ⟨c6, H1⟩
  rotate_left
  ·skip
   repeat apply TW.seq
   refine cf (f2 hh c6) ?_
   repeat apply TW.seq
   refine sk ?_
   repeat apply TW.seq
   refine rk [0, 1, 2, 3, 4, 9, 10] [] (f2 hh c6) ?_
   clear hh h
   intro h hh
   exact rd m hh ⟨(IntKind.i64.wrap (i + 1)), l, l2, l6, n, H1, kq hh, rfl⟩
  repeat apply TW.seq
  refine ct (f2 hh c6) ?_
  obtain ⟨g7, H1⟩ := isg H1
  obtain ⟨g8, H1⟩ := isg H1
  obtain ⟨g9, H1⟩ := isg H1
  obtain ⟨g10, H1⟩ := isg H1
  repeat apply TW.seq
  refine ds 12 [(3, some 1), (43, some 3)] [0, 1, 2, 3, 4, 7, 9, 10] [] [] [] (f3 hh c6 (f2 (fun f v => @spl_map _ _ f _ v g8) (show spl (l2.map pArcU) ((gx a i).to).toNat [.cp [.int .i64 ((gx a i).link), .int .i64 ((gx a i).frm), .int .i64 ((gx a i).to), .int .i64 ((gx a i).room), .bool ((gx a i).back)]] = _ from spl_map (v := (some (gx a i))) g10))) trivial trivial ?_
  clear hh h
  intro h hh
  obtain ⟨g11, H1⟩ := isg H1
  repeat apply TW.seq
  refine dg 5 [] [] [] [.cells true 1 [.arr 3 1 0 n3 n3 n3], .cells true 1 [.arr 4 1 0 n4 n4 n4], .cells true 1 [.arr 5 1 0 (n + 1) (n + 1) (n + 1)], .cells true n3 ((l.set ((gx a i).to).toNat true).map T.bool), .cells true n4 ((l2.set ((gx a i).to).toNat (some (gx a i))).map pArcU), .cells false (n + 1) ((l6 ++ [(gx a i).to]).map (T.int .i64))] (fun h => h 0 = .int .i64 at_ ∧ h 1 = .cp [lArcU a] ∧ h 2 = .ptr 0 0 1 ∧ h 3 = .ptr 1 0 1 ∧ h 4 = .ptr 2 0 1 ∧ h 9 = .int .i64 (a.length : Int) ∧ h 10 = .int .i64 i) (f2 hh c6) trivial trivial ?_
  clear hh h
  intro h hh
  repeat apply TW.seq
  refine rk [0, 1, 2, 3, 4, 9, 10] [] (f2 hh c6) ?_
  clear hh h
  intro h hh
  exact rd m hh ⟨(IntKind.i64.wrap (i + 1)), (l.set ((gx a i).to).toNat true), (l2.set ((gx a i).to).toNat (some (gx a i))), (l6 ++ [(gx a i).to]), (n + 1), H1, kq hh, rfl⟩
 clear hh h
 rintro h bs ⟨hh, rfl⟩
 cases H
 exact rnB hh
def sflow_reached_b_L0 (k : Nat) (n : Net) (rb : List ArcU) : Nat → Int → (List (Option ArcU)) → (List Bool) → (List Int) → Nat → Option (List (Option ArcU) × List Bool × List Int × Nat)
 | 0, _, _, _, _, _ => none
 | m + 1, k_, l, l2, l3, n2 => (if k_ < (n2 : Int) then (if (0 : Int) ≤ k_ ∧ k_ < (n2 : Int) then (if k_.toNat < l3.length then ((sflow_reached_2_b1 k n.nodes.length n.nodes.length n2 (l3.getD k_.toNat default) rb l2 l l3).bind fun rb1 => sflow_reached_b_L0 k n rb m (IntKind.i64.wrap (k_ + 1)) rb1.2.1 rb1.1 rb1.2.2.1 rb1.2.2.2) else none) else none) else some (l, l2, l3, n2))
def sflow_reached_b (k : Nat) (n0 : Nat) (n : Net) (f_ : Failure) (from_ : Int) (l0 : List Int) : Option (List (Option ArcU) × List Bool) := ((sflow_arcsU_b k n0 n f_ l0).bind fun rb => (if n.nodes.length * 9 ≤ 1000000000 then (if n.nodes.length * 2 ≤ 1000000000 then (if (0 : Int) ≤ from_ ∧ from_ < (n.nodes.length : Int) then (if from_.toNat < (List.replicate n.nodes.length false).length then ((sflow_reached_b_L0 k n rb k 0 (List.replicate n.nodes.length none) ((List.replicate n.nodes.length false).set from_.toNat true) [from_] 1 : Option (List (Option ArcU) × List Bool × List Int × Nat)).bind fun s_ => (if s_.1.length = n.nodes.length then (if s_.2.1.length = n.nodes.length then some (s_.1, s_.2.1) else none) else none)) else none) else none) else none) else none))
set_option maxHeartbeats 8000000 in
theorem sflow_reached_b_ok (ax : Axs) (hx : Plain ax) (k : Nat) (n0 : Nat) (n : Net) (f_ : Failure) (from_ : Int) (l0 : List Int) (v : List (Option ArcU) × List Bool) (H : sflow_reached_b k n0 n f_ from_ l0 = some v) : Call Try.prog (EE ax) [] 47 [eNet n, eFail f_, .arr 0 1 0 n0 n0 n0, .int .i64 from_] (stL [.cells true n0 (l0.map (T.int .i64))]) (tupT [lPArcU v.1, bools v.2]) (stL [.cells true n0 (l0.map (T.int .i64))]) := by
 rw [sflow_reached_b] at H
 refine enB [.tmp 8, .tmp 9] 48 [0, 1, 2, 3] (hx.no _ (by decide)) (fn47 ax) ?_
 intro h hh
 repeat apply TW.seq
 refine rk [2, 3, 4, 5] [] hh ?_
 clear hh h
 intro h hh
 obtain ⟨rb, e1, H⟩ := bsome H
 repeat apply TW.seq
 refine rkc [3, 4, 10] [] [(lArcU rb, stL [.cells true n0 (l0.map (T.int .i64)), .cells true 3 [lNodes n.nodes, lLinks n.links, lEdges n.edges], .cells true 2 [ints f_.links, .int .i64 f_.node]])] hh ?_ ?_
 ·exact ⟨ca [0] (sflow_arcsU_b_ok ax hx k n0 n f_ l0 rb e1), trivial⟩
 clear hh h
 intro h hh
 refine zk 10 3 1 true [lArcU rb] [3, 4, 10] hh ?_
 clear hh h
 intro h hh
 obtain ⟨g2, H⟩ := isg H
 obtain ⟨g3, H⟩ := isg H
 repeat apply TW.seq
 refine ds 3 [(11, some 6), (20, some 1), (23, some 4), (24, some 1), (27, some 5)] [3, 10, 11, 12] [] [] [] (f2 hh (repPU (n.nodes.length))) trivial trivial ?_
 clear hh h
 intro h hh
 obtain ⟨g4, H⟩ := isg H
 obtain ⟨g5, H⟩ := isg H
 repeat apply TW.seq
 refine rk [3, 10, 11, 12] [] (f2 hh (fun f v => @spl_map _ _ f _ v g5)) ?_
 clear hh h
 intro h hh
 repeat apply TW.seq
 refine rk [10, 11, 12, 13] [32] hh ?_
 clear hh h
 intro h hh
 repeat apply TW.seq
 refine rk [11, 12, 13, 14] [] hh ?_
 clear hh h
 intro h hh
 repeat apply TW.seq
 refine rk [11, 12, 13, 14, 15] [] hh ?_
 clear hh h
 intro h hh
 obtain ⟨s_, H1, H⟩ := bsome H
 repeat apply TW.seq
 refine cu [11, 12] 10 (fun h bs => ∃ z6, (h 11 = .ptr 6 0 1 ∧ h 12 = .ptr 7 0 1) ∧ bs = [.cells true n0 (l0.map (T.int .i64)), .cells true 3 [lNodes n.nodes, lLinks n.links, lEdges n.edges], .cells true 2 [ints f_.links, .int .i64 f_.node], .gone, .cells true n.nodes.length (s_.1.map pArcU), .cells true n.nodes.length (s_.2.1.map T.bool), .cells true 1 [.arr 4 1 0 n.nodes.length n.nodes.length n.nodes.length], .cells true 1 [.arr 5 1 0 n.nodes.length n.nodes.length n.nodes.length], .cells z6 s_.2.2.2 (s_.2.2.1.map (T.int .i64)), .cells true 1 [.arr 8 1 0 s_.2.2.2 s_.2.2.2 s_.2.2.2]]) ?_ ?_
 ·skip
  repeat apply TW.seq
  apply TW.block
  repeat apply TW.seq
  refine uz 8 ?_
  refine TW.loopT [11, 12, 13, 14, 15] (fun m h bs => ∃ (k_ : Int) (l : List (Option ArcU)) (l2 : List Bool) (l3 : List Int) (n2 : Nat), sflow_reached_b_L0 k n rb m k_ l l2 l3 n2 = some s_ ∧ (h 11 = .ptr 6 0 1 ∧ h 12 = .ptr 7 0 1 ∧ h 13 = .ptr 9 0 1 ∧ h 14 = .fn 68 [] [.cp [lArcU rb], .ptr 7 0 1, .ptr 6 0 1, .ptr 9 0 1] ∧ h 15 = .int .i64 k_) ∧ bs = [.cells true n0 (l0.map (T.int .i64)), .cells true 3 [lNodes n.nodes, lLinks n.links, lEdges n.edges], .cells true 2 [ints f_.links, .int .i64 f_.node], .gone, .cells true n.nodes.length (l.map pArcU), .cells true n.nodes.length (l2.map T.bool), .cells true 1 [.arr 4 1 0 n.nodes.length n.nodes.length n.nodes.length], .cells true 1 [.arr 5 1 0 n.nodes.length n.nodes.length n.nodes.length], .cells false n2 (l3.map (T.int .i64)), .cells true 1 [.arr 8 1 0 n2 n2 n2]]) ?_ k _ _ ?_
  rotate_left
  ·exact ⟨0, (List.replicate n.nodes.length none), ((List.replicate n.nodes.length false).set from_.toNat true), [from_], 1, H1, kq hh, rfl⟩
  clear hh h H1
  rintro m h bs ⟨k_, l, l2, l3, n2, H1, hh, rfl⟩
  rcases m with _ | m
  ·rw [sflow_reached_b_L0] at H1; cases H1
  rw [sflow_reached_b_L0] at H1
  repeat apply TW.seq
  refine rk [11, 12, 13, 14, 15, 37] [] hh ?_
  clear hh h
  intro h hh
  rcases isp H1 with ⟨c7, H1⟩ | ⟨c7, H1⟩
  rotate_left
  ·skip
   repeat apply TW.seq
   refine cf (f2 hh (decide_eq_false c7)) ?_
   refine xk ?_
   cases H1
   exact ce hh ⟨_, kq hh, rfl⟩
  repeat apply TW.seq
  refine ct (f2 hh (decide_eq_true c7)) ?_
  repeat apply TW.seq
  refine sk ?_
  repeat apply TW.seq
  apply TW.block
  obtain ⟨g8, H1⟩ := isg H1
  obtain ⟨g9, H1⟩ := isg H1
  obtain ⟨rb1, e10, H1⟩ := bsome H1
  repeat apply TW.seq
  refine rkc [11, 12, 13, 14, 15] [] [(.tup [], stL [.cells true n0 (l0.map (T.int .i64)), .cells true 3 [lNodes n.nodes, lLinks n.links, lEdges n.edges], .cells true 2 [ints f_.links, .int .i64 f_.node], .gone, .cells true n.nodes.length (rb1.2.1.map pArcU), .cells true n.nodes.length (rb1.1.map T.bool), .cells true 1 [.arr 4 1 0 n.nodes.length n.nodes.length n.nodes.length], .cells true 1 [.arr 5 1 0 n.nodes.length n.nodes.length n.nodes.length], .cells false rb1.2.2.2 (rb1.2.2.1.map (T.int .i64)), .cells true 1 [.arr 8 1 0 rb1.2.2.2 rb1.2.2.2 rb1.2.2.2]])] (f2 hh (get_some g9)) ?_ ?_
  ·exact ⟨ca [7, 6, 9, 5, 4, 8] (sflow_reached_2_b1_ok ax hx k n.nodes.length n.nodes.length n2 (l3.getD k_.toNat default) rb l2 l l3 rb1 e10), trivial⟩
  clear hh h
  intro h hh
  repeat apply TW.seq
  refine rk [11, 12, 13, 14, 15] [] hh ?_
  clear hh h
  intro h hh
  exact rd m hh ⟨(IntKind.i64.wrap (k_ + 1)), rb1.2.1, rb1.1, rb1.2.2.1, rb1.2.2.2, H1, kq hh, rfl⟩
 clear hh h
 rintro h bs ⟨z6, hh, rfl⟩
 refine uz 8 ?_
 repeat apply TW.seq
 refine dk 2 [8, 9] [] [] [] hh trivial trivial ?_
 clear hh h
 intro h hh
 obtain ⟨g11, H⟩ := isg H
 obtain ⟨g12, H⟩ := isg H
 refine TW.freeze 8 (b := 4) (e := 1) (off := 0) (len := n.nodes.length) (cap := n.nodes.length) (M := n.nodes.length) (s_.1.map pArcU) (kq hh) (by rfl) (by omega) (by omega) (by rw [List.drop_zero, Nat.mul_one, cells_map celPU, List.take_of_length_le (by rw [List.length_map]; omega)]) (fun t ht => by obtain ⟨x, _, rfl⟩ := List.mem_map.1 ht; first | rfl | (rw [celPU]; rfl)) (by rw [List.length_map]; exact g11) (by omega) ?_
 rw [st_set _ _ _ (by simp only [lzA] <;> omega)]
 simp only [scA]
 refine gk [8, 9] hh ?_
 clear hh h
 intro h hh
 refine TW.freeze 9 (b := 5) (e := 1) (off := 0) (len := n.nodes.length) (cap := n.nodes.length) (M := n.nodes.length) (s_.2.1.map T.bool) (kq hh) (by rfl) (by omega) (by omega) (by rw [List.drop_zero, Nat.mul_one, cells_map (fun _ => rfl), List.take_of_length_le (by rw [List.length_map]; omega)]) (fun t ht => by obtain ⟨x, _, rfl⟩ := List.mem_map.1 ht; first | rfl | (rw [List.length_map]; rfl)) (by rw [List.length_map]; exact g12) (by omega) ?_
 rw [st_set _ _ _ (by simp only [lzA] <;> omega)]
 simp only [scA]
 refine gk [8, 9] hh ?_
 clear hh h
 intro h hh
 cases H
 exact rtB hh
def sflow_pushU_b_L0 (k : Nat) (by_ : List (Option ArcU)) (from_ : Int) : Nat → Int → Int → Option Int
 | 0, _, _ => none
 | m + 1, amount2, at_ => (if at_ ≠ from_ then (if (0 : Int) ≤ at_ ∧ at_ < (by_.length : Int) then (if (gx by_ at_).isSome = true then sflow_pushU_b_L0 k by_ from_ m (min amount2 (((gx by_ at_).getD default).room)) (((gx by_ at_).getD default).frm) else none) else none) else some amount2)
def sflow_pushU_b_L1 (k : Nat) (n0 : Nat) (by_ : List (Option ArcU)) (from_ : Int) (s_ : Int) : Nat → Int → (List Int) → Option (List Int)
 | 0, _, _ => none
 | m + 1, at_2, l => (if at_2 ≠ from_ then (if (0 : Int) ≤ at_2 ∧ at_2 < (by_.length : Int) then (if (gx by_ at_2).isSome = true then (if ((gx by_ at_2).getD default).back = true then (if (0 : Int) ≤ (((gx by_ at_2).getD default).link) ∧ (((gx by_ at_2).getD default).link) < (n0 : Int) then (if (((gx by_ at_2).getD default).link).toNat < l.length then sflow_pushU_b_L1 k n0 by_ from_ s_ m (((gx by_ at_2).getD default).frm) (l.set (((gx by_ at_2).getD default).link).toNat (IntKind.i64.wrap ((l.getD (((gx by_ at_2).getD default).link).toNat default) - s_))) else none) else none) else (if (0 : Int) ≤ (((gx by_ at_2).getD default).link) ∧ (((gx by_ at_2).getD default).link) < (n0 : Int) then (if (((gx by_ at_2).getD default).link).toNat < l.length then sflow_pushU_b_L1 k n0 by_ from_ s_ m (((gx by_ at_2).getD default).frm) (l.set (((gx by_ at_2).getD default).link).toNat (IntKind.i64.wrap ((l.getD (((gx by_ at_2).getD default).link).toNat default) + s_))) else none) else none)) else none) else none) else some l)
def sflow_pushU_b (k : Nat) (n0 : Nat) (by_ : List (Option ArcU)) (from_ : Int) (to_ : Int) (amount : Int) (l0 : List Int) : Option (Int × List Int) := ((sflow_pushU_b_L0 k by_ from_ k amount to_ : Option Int).bind fun s_ => ((sflow_pushU_b_L1 k n0 by_ from_ s_ k to_ l0 : Option (List Int)).bind fun s_2 => some (s_, s_2)))
set_option maxHeartbeats 8000000 in
theorem sflow_pushU_b_ok (ax : Axs) (hx : Plain ax) (k : Nat) (n0 : Nat) (by_ : List (Option ArcU)) (from_ : Int) (to_ : Int) (amount : Int) (l0 : List Int) (v : Int × List Int) (H : sflow_pushU_b k n0 by_ from_ to_ amount l0 = some v) : Call Try.prog (EE ax) [] 48 [.arr 0 1 0 n0 n0 n0, lPArcU by_, .int .i64 from_, .int .i64 to_, .int .i64 amount] (stL [.cells true n0 (l0.map (T.int .i64))]) (tupT [.int .i64 v.1]) (stL [.cells true n0 (v.2.map (T.int .i64))]) := by
 rw [sflow_pushU_b] at H
 refine enB [.tmp 10] 74 [0, 1, 2, 3, 4] (hx.no _ (by decide)) (fn48 ax) ?_
 intro h hh
 repeat apply TW.seq
 refine rk [0, 1, 2, 3, 4] [] hh ?_
 clear hh h
 intro h hh
 repeat apply TW.seq
 refine rk [0, 1, 2, 3, 4, 11] [] hh ?_
 clear hh h
 intro h hh
 obtain ⟨s_, H1, H⟩ := bsome H
 repeat apply TW.seq
 refine cu [0, 1, 2, 3, 4] 1 (fun h bs => (h 0 = .arr 0 1 0 n0 n0 n0 ∧ h 1 = lPArcU by_ ∧ h 2 = .int .i64 from_ ∧ h 3 = .int .i64 to_ ∧ h 4 = .int .i64 s_) ∧ bs = [.cells true n0 (l0.map (T.int .i64))]) ?_ ?_
 ·skip
  repeat apply TW.seq
  apply TW.block
  repeat apply TW.seq
  refine TW.loopT [0, 1, 2, 3, 4, 11] (fun m h bs => ∃ (amount2 : Int) (at_ : Int), sflow_pushU_b_L0 k by_ from_ m amount2 at_ = some s_ ∧ (h 0 = .arr 0 1 0 n0 n0 n0 ∧ h 1 = lPArcU by_ ∧ h 2 = .int .i64 from_ ∧ h 3 = .int .i64 to_ ∧ h 4 = .int .i64 amount2 ∧ h 11 = .int .i64 at_) ∧ bs = [.cells true n0 (l0.map (T.int .i64))]) ?_ k _ _ ?_
  rotate_left
  ·exact ⟨amount, to_, H1, kq hh, rfl⟩
  clear hh h H1
  rintro m h bs ⟨amount2, at_, H1, hh, rfl⟩
  rcases m with _ | m
  ·rw [sflow_pushU_b_L0] at H1; cases H1
  rw [sflow_pushU_b_L0] at H1
  repeat apply TW.seq
  refine rk [0, 1, 2, 3, 4, 11, 17] [] hh ?_
  clear hh h
  intro h hh
  rcases isp H1 with ⟨c1, H1⟩ | ⟨c1, H1⟩
  rotate_left
  ·skip
   repeat apply TW.seq
   refine cf (f2 hh (decide_eq_false c1)) ?_
   refine xk ?_
   cases H1
   exact ce hh ⟨kq hh, rfl⟩
  repeat apply TW.seq
  refine ct (f2 hh (decide_eq_true c1)) ?_
  repeat apply TW.seq
  refine sk ?_
  repeat apply TW.seq
  apply TW.block
  obtain ⟨g2, H1⟩ := isg H1
  obtain ⟨g3, H1⟩ := isg H1
  repeat apply TW.seq
  refine rk [0, 1, 2, 3, 4, 11] [] (f3 hh (gx_some g2) (pArcU_some g3)) ?_
  clear hh h
  intro h hh
  repeat apply TW.seq
  refine rk [0, 1, 2, 3, 4, 11] [] (f3 hh (gx_some g2) (pArcU_some g3)) ?_
  clear hh h
  intro h hh
  exact rd m hh ⟨(min amount2 (((gx by_ at_).getD default).room)), (((gx by_ at_).getD default).frm), H1, kq hh, rfl⟩
 clear hh h
 rintro h bs ⟨hh, rfl⟩
 repeat apply TW.seq
 refine rk [0, 1, 2, 4, 12] [] hh ?_
 clear hh h
 intro h hh
 obtain ⟨s_2, H1, H⟩ := bsome H
 repeat apply TW.seq
 refine cu [4] 1 (fun h bs => (h 4 = .int .i64 s_) ∧ bs = [.cells true n0 (s_2.map (T.int .i64))]) ?_ ?_
 ·skip
  repeat apply TW.seq
  apply TW.block
  repeat apply TW.seq
  refine TW.loopT [0, 1, 2, 4, 12] (fun m h bs => ∃ (at_2 : Int) (l : List Int), sflow_pushU_b_L1 k n0 by_ from_ s_ m at_2 l = some s_2 ∧ (h 0 = .arr 0 1 0 n0 n0 n0 ∧ h 1 = lPArcU by_ ∧ h 2 = .int .i64 from_ ∧ h 4 = .int .i64 s_ ∧ h 12 = .int .i64 at_2) ∧ bs = [.cells true n0 (l.map (T.int .i64))]) ?_ k _ _ ?_
  rotate_left
  ·exact ⟨to_, l0, H1, kq hh, rfl⟩
  clear hh h H1
  rintro m h bs ⟨at_2, l, H1, hh, rfl⟩
  rcases m with _ | m
  ·rw [sflow_pushU_b_L1] at H1; cases H1
  rw [sflow_pushU_b_L1] at H1
  repeat apply TW.seq
  refine rk [0, 1, 2, 4, 12, 37] [] hh ?_
  clear hh h
  intro h hh
  rcases isp H1 with ⟨c4, H1⟩ | ⟨c4, H1⟩
  rotate_left
  ·skip
   repeat apply TW.seq
   refine cf (f2 hh (decide_eq_false c4)) ?_
   refine xk ?_
   cases H1
   exact ce hh ⟨kq hh, rfl⟩
  repeat apply TW.seq
  refine ct (f2 hh (decide_eq_true c4)) ?_
  repeat apply TW.seq
  refine sk ?_
  repeat apply TW.seq
  apply TW.block
  obtain ⟨g5, H1⟩ := isg H1
  repeat apply TW.seq
  refine rk [0, 1, 2, 4, 12, 13] [] (f2 hh (gx_some g5)) ?_
  clear hh h
  intro h hh
  obtain ⟨g6, H1⟩ := isg H1
  repeat apply TW.seq
  refine rk [0, 1, 2, 4, 12, 13, 52] [] (f2 hh (pArcU_some g6)) ?_
  clear hh h
  intro h hh
  rcases isb H1 with ⟨c7, H1⟩ | ⟨c7, H1⟩
  rotate_left
  ·skip
   repeat apply TW.seq
   refine cf (f2 hh c7) ?_
   obtain ⟨g10, H1⟩ := isg H1
   obtain ⟨g11, H1⟩ := isg H1
   repeat apply TW.seq
   refine rk [0, 1, 2, 4, 12] [] (f3 hh c7 (f3 (pArcU_some g6) (get_some g11) (fun f v => @spl_map _ _ f _ v g11))) ?_
   clear hh h
   intro h hh
   repeat apply TW.seq
   refine rk [0, 1, 2, 4, 12] [] (f3 hh c7 (f2 (gx_some g5) (pArcU_some g6))) ?_
   clear hh h
   intro h hh
   exact rd m hh ⟨(((gx by_ at_2).getD default).frm), (l.set (((gx by_ at_2).getD default).link).toNat (IntKind.i64.wrap ((l.getD (((gx by_ at_2).getD default).link).toNat default) + s_))), H1, kq hh, rfl⟩
  repeat apply TW.seq
  refine ct (f2 hh c7) ?_
  obtain ⟨g8, H1⟩ := isg H1
  obtain ⟨g9, H1⟩ := isg H1
  repeat apply TW.seq
  refine rk [0, 1, 2, 4, 12] [] (f3 hh c7 (f3 (pArcU_some g6) (get_some g9) (fun f v => @spl_map _ _ f _ v g9))) ?_
  clear hh h
  intro h hh
  repeat apply TW.seq
  refine rk [0, 1, 2, 4, 12] [] (f3 hh c7 (f2 (gx_some g5) (pArcU_some g6))) ?_
  clear hh h
  intro h hh
  exact rd m hh ⟨(((gx by_ at_2).getD default).frm), (l.set (((gx by_ at_2).getD default).link).toNat (IntKind.i64.wrap ((l.getD (((gx by_ at_2).getD default).link).toNat default) - s_))), H1, kq hh, rfl⟩
 clear hh h
 rintro h bs ⟨hh, rfl⟩
 repeat apply TW.seq
 refine rk [10] [] hh ?_
 clear hh h
 intro h hh
 cases H
 exact rtB hh
def sflow_Max_L1 (k : Nat) (rb : List (Option ArcU) × List Bool) : Nat → Int → (List Int) → Nat → Option (List Int × Nat)
 | 0, _, _, _ => none
 | m + 1, i, l2, n2 => (if i < (rb.2.length : Int) then (if (0 : Int) ≤ i ∧ i < (rb.2.length : Int) then (if gx rb.2 i = true then (if (n2 + 1) * 9 ≤ 1000000000 then sflow_Max_L1 k rb m (IntKind.i64.wrap (i + 1)) (l2 ++ [i]) (n2 + 1) else none) else sflow_Max_L1 k rb m (IntKind.i64.wrap (i + 1)) l2 n2) else none) else some (l2, n2))
def sflow_Max_L0 (k : Nat) (n : Net) (f_ : Failure) (from_ : Int) (to_ : Int) : Nat → (List Int) → Option (List Int × List Int × Int)
 | 0, _ => none
 | m + 1, l => ((((sflow_reached_b k n.links.length n f_ from_ l).bind fun rb => (if (0 : Int) ≤ to_ ∧ to_ < (rb.2.length : Int) then (if gx rb.2 to_ = true then ((sflow_pushU_b k n.links.length rb.1 from_ to_ 4294967296 l).bind fun rb2 => some (.inr rb2.2)) else ((sflow_Max_L1 k rb k 0 [] 0 : Option (List Int × Nat)).bind fun s_3 => (if l.length = n.links.length then (if s_3.1.length = s_3.2 then some (.inl (l, s_3.1, 0)) else none) else none))) else none)) : Option ((List Int × List Int × Int) ⊕ (List Int))).bind fun o => Sum.elim (fun r => some r) (fun s_2 => sflow_Max_L0 k n f_ from_ to_ m s_2) o)
def sflow_Max (k : Nat) (n : Net) (f_ : Failure) (from_ : Int) (to_ : Int) : Option (List Int × List Int × Int) := ((((sflow_isNode k n from_).bind fun risNode => (if risNode = true then ((sflow_isNode k n to_).bind fun risNode2 => (if risNode2 = true then some (decide (from_ = to_)) else some true)) else some true)) : Option Bool).bind fun s_ => (if s_ = true then some ([], [], 1) else (if n.links.length * 9 ≤ 1000000000 then sflow_Max_L0 k n f_ from_ to_ k (List.replicate n.links.length 0) else none)))
set_option maxHeartbeats 8000000 in
theorem sflow_Max_ok (ax : Axs) (hx : Plain ax) (k : Nat) (n : Net) (f_ : Failure) (from_ : Int) (to_ : Int) (v : List Int × List Int × Int) (H : sflow_Max k n f_ from_ to_ = some v) : Pure Try.prog (EE ax) [] 25 [eNet n, eFail f_, .int .i64 from_, .int .i64 to_] (tupT [ints v.1, ints v.2.1, .int .i64 v.2.2]) := by
 rw [sflow_Max] at H
 refine enN [.tmp 8, .tmp 9, .tmp 10] 68 [0, 1, 2, 3] (hx.no _ (by decide)) (fn25 ax) ?_
 intro h hh
 repeat apply TW.seq
 refine rk [2, 3, 4, 5] [] hh ?_
 clear hh h
 intro h hh
 obtain ⟨s_, H1, H⟩ := bsome H
 repeat apply TW.seq
 refine cu [2, 3, 4, 5, 31] 2 (fun h bs => (h 2 = .int .i64 from_ ∧ h 3 = .int .i64 to_ ∧ h 4 = .ptr 0 0 3 ∧ h 5 = .ptr 1 0 2 ∧ h 31 = .bool s_) ∧ bs = [.cells true 3 [lNodes n.nodes, lLinks n.links, lEdges n.edges], .cells true 2 [ints f_.links, .int .i64 f_.node]]) ?_ ?_
 ·skip
  obtain ⟨risNode, e1, H1⟩ := bsome H1
  rcases isb H1 with ⟨c2, H1⟩ | ⟨c2, H1⟩
  rotate_left
  ·skip
   repeat apply TW.seq
   refine rkc [2, 3, 4, 5, 31] [] [(.bool risNode, stL [.cells true 3 [lNodes n.nodes, lLinks n.links, lEdges n.edges], .cells true 2 [ints f_.links, .int .i64 f_.node]])] (f2 hh c2) ?_ ?_
   ·exact ⟨Call0.call (Pure.clr (sflow_isNode_ok ax hx k n from_ risNode e1 ) (by first | rfl | simp only [c2])), trivial⟩
   clear hh h
   intro h hh
   cases H1
   exact ce hh ⟨kq hh, rfl⟩
  obtain ⟨risNode2, e3, H1⟩ := bsome H1
  rcases isb H1 with ⟨c4, H1⟩ | ⟨c4, H1⟩
  rotate_left
  ·skip
   repeat apply TW.seq
   refine rkc [2, 3, 4, 5, 31] [] [(.bool risNode, stL [.cells true 3 [lNodes n.nodes, lLinks n.links, lEdges n.edges], .cells true 2 [ints f_.links, .int .i64 f_.node]]), (.bool risNode2, stL [.cells true 3 [lNodes n.nodes, lLinks n.links, lEdges n.edges], .cells true 2 [ints f_.links, .int .i64 f_.node]])] (f3 hh c2 c4) ?_ ?_
   ·exact ⟨Call0.call (Pure.clr (sflow_isNode_ok ax hx k n from_ risNode e1 ) (by first | rfl | simp only [c2, c4])), Call0.call (Pure.clr (sflow_isNode_ok ax hx k n to_ risNode2 e3 ) (by first | rfl | simp only [c2, c4])), trivial⟩
   clear hh h
   intro h hh
   cases H1
   exact ce hh ⟨kq hh, rfl⟩
  repeat apply TW.seq
  refine rkc [2, 3, 4, 5, 31] [] [(.bool risNode, stL [.cells true 3 [lNodes n.nodes, lLinks n.links, lEdges n.edges], .cells true 2 [ints f_.links, .int .i64 f_.node]]), (.bool risNode2, stL [.cells true 3 [lNodes n.nodes, lLinks n.links, lEdges n.edges], .cells true 2 [ints f_.links, .int .i64 f_.node]])] (f3 hh c2 c4) ?_ ?_
  ·exact ⟨Call0.call (Pure.clr (sflow_isNode_ok ax hx k n from_ risNode e1 ) (by first | rfl | simp only [c2, c4])), Call0.call (Pure.clr (sflow_isNode_ok ax hx k n to_ risNode2 e3 ) (by first | rfl | simp only [c2, c4])), trivial⟩
  clear hh h
  intro h hh
  cases H1
  exact ce hh ⟨kq hh, rfl⟩
 clear hh h
 rintro h bs ⟨hh, rfl⟩
 rcases isb H with ⟨c5, H⟩ | ⟨c5, H⟩
 rotate_left
 ·skip
  repeat apply TW.seq
  refine cf (f2 hh c5) ?_
  repeat apply TW.seq
  refine sk ?_
  obtain ⟨g6, H⟩ := isg H
  repeat apply TW.seq
  refine rk [2, 3, 4, 5, 11] [] (f2 hh c5) ?_
  clear hh h
  intro h hh
  repeat apply TW.seq
  apply TW.block
  repeat apply TW.seq
  refine TW.loopT [2, 3, 4, 5, 11] (fun m h bs => ∃ (l : List Int), sflow_Max_L0 k n f_ from_ to_ m l = some v ∧ (h 2 = .int .i64 from_ ∧ h 3 = .int .i64 to_ ∧ h 4 = .ptr 0 0 3 ∧ h 5 = .ptr 1 0 2 ∧ h 11 = .arr 2 1 0 n.links.length n.links.length n.links.length) ∧ bs = [.cells true 3 [lNodes n.nodes, lLinks n.links, lEdges n.edges], .cells true 2 [ints f_.links, .int .i64 f_.node], .cells true n.links.length (l.map (T.int .i64))]) ?_ k _ _ ?_
  rotate_left
  ·exact ⟨(List.replicate n.links.length 0), H, kq hh, rfl⟩
  clear hh h H
  rintro m h bs ⟨l, H, hh, rfl⟩
  rcases m with _ | m
  ·rw [sflow_Max_L0] at H; cases H
  rw [sflow_Max_L0] at H
  obtain ⟨o, H1, H⟩ := bsome H
  repeat apply TW.seq
  refine cu [2, 3, 4, 5, 11] 3 (fun h bs => ∃ s_2 : List Int, o = .inr s_2 ∧ (h 2 = .int .i64 from_ ∧ h 3 = .int .i64 to_ ∧ h 4 = .ptr 0 0 3 ∧ h 5 = .ptr 1 0 2 ∧ h 11 = .arr 2 1 0 n.links.length n.links.length n.links.length) ∧ bs = [.cells true 3 [lNodes n.nodes, lLinks n.links, lEdges n.edges], .cells true 2 [ints f_.links, .int .i64 f_.node], .cells true n.links.length (s_2.map (T.int .i64))]) ?_ ?_
  ·skip
   repeat apply TW.seq
   apply TW.block
   obtain ⟨rb, e7, H1⟩ := bsome H1
   repeat apply TW.seq
   refine rkc [2, 3, 4, 5, 11, 12, 13] [] [(.tup [lPArcU rb.1, bools rb.2], stL [.cells true 3 [lNodes n.nodes, lLinks n.links, lEdges n.edges], .cells true 2 [ints f_.links, .int .i64 f_.node], .cells true n.links.length (l.map (T.int .i64))])] (f2 hh c5) ?_ ?_
   ·exact ⟨ca [2] (sflow_reached_b_ok ax hx k n.links.length n f_ from_ l rb e7), trivial⟩
   clear hh h
   intro h hh
   obtain ⟨g8, H1⟩ := isg H1
   repeat apply TW.seq
   refine rk [2, 3, 4, 5, 11, 12, 13, 47] [] (f3 hh c5 (gx_some g8)) ?_
   clear hh h
   intro h hh
   rcases isb H1 with ⟨c9, H1⟩ | ⟨c9, H1⟩
   rotate_left
   ·skip
    repeat apply TW.seq
    refine cf (f2 hh c9) ?_
    repeat apply TW.seq
    refine sk ?_
    repeat apply TW.seq
    refine rk [11, 13, 14] [] (f3 hh c5 c9) ?_
    clear hh h
    intro h hh
    refine vk 14 1 [11, 13, 14] hh ?_
    clear hh h
    intro h hh
    repeat apply TW.seq
    refine rk [11, 14, 53, 54, 55] [] (f3 hh c5 c9) ?_
    clear hh h
    intro h hh
    obtain ⟨s_3, H2, H1⟩ := bsome H1
    repeat apply TW.seq
    refine cu [11, 14] 4 (fun h bs => (h 11 = .arr 2 1 0 n.links.length n.links.length n.links.length ∧ h 14 = .arr 3 1 0 s_3.2 s_3.2 s_3.2) ∧ bs = [.cells true 3 [lNodes n.nodes, lLinks n.links, lEdges n.edges], .cells true 2 [ints f_.links, .int .i64 f_.node], .cells true n.links.length (l.map (T.int .i64)), .cells false s_3.2 (s_3.1.map (T.int .i64))]) ?_ ?_
    ·skip
     repeat apply TW.seq
     apply TW.block
     repeat apply TW.seq
     refine TW.loopT [11, 14, 53, 54, 55] (fun m h bs => ∃ (i : Int) (l2 : List Int) (n2 : Nat), sflow_Max_L1 k rb m i l2 n2 = some s_3 ∧ (h 11 = .arr 2 1 0 n.links.length n.links.length n.links.length ∧ h 14 = .arr 3 1 0 n2 n2 n2 ∧ h 53 = bools rb.2 ∧ h 54 = .int .i64 (rb.2.length : Int) ∧ h 55 = .int .i64 i) ∧ bs = [.cells true 3 [lNodes n.nodes, lLinks n.links, lEdges n.edges], .cells true 2 [ints f_.links, .int .i64 f_.node], .cells true n.links.length (l.map (T.int .i64)), .cells false n2 (l2.map (T.int .i64))]) ?_ k _ _ ?_
     rotate_left
     ·exact ⟨0, [], 0, H2, kq hh, rfl⟩
     clear hh h H2
     rintro m h bs ⟨i, l2, n2, H2, hh, rfl⟩
     rcases m with _ | m
     ·rw [sflow_Max_L1] at H2; cases H2
     rw [sflow_Max_L1] at H2
     repeat apply TW.seq
     refine rk [11, 14, 53, 54, 55, 56] [] (f3 hh c5 c9) ?_
     clear hh h
     intro h hh
     rcases isp H2 with ⟨c11, H2⟩ | ⟨c11, H2⟩
     rotate_left
     ·skip
      repeat apply TW.seq
      refine cf (f2 hh (decide_eq_false c11)) ?_
      refine xk ?_
      cases H2
      exact ce hh ⟨kq hh, rfl⟩
     repeat apply TW.seq
     refine ct (f2 hh (decide_eq_true c11)) ?_
     repeat apply TW.seq
     refine sk ?_
     repeat apply TW.seq
     apply TW.block
     obtain ⟨g12, H2⟩ := isg H2
     repeat apply TW.seq
     refine rk [11, 14, 15, 16, 53, 54, 55] [] (f3 hh c5 (f2 c9 (gx_some g12))) ?_
     clear hh h
     intro h hh
     repeat apply TW.seq
     refine rk [11, 14, 15, 53, 54, 55, 60] [] (f3 hh c5 c9) ?_
     clear hh h
     intro h hh
     rcases isb H2 with ⟨c13, H2⟩ | ⟨c13, H2⟩
     rotate_left
     ·skip
      repeat apply TW.seq
      refine cf (f2 hh c13) ?_
      repeat apply TW.seq
      refine sk ?_
      repeat apply TW.seq
      refine rk [11, 14, 53, 54, 55] [] (f3 hh c5 (f2 c9 c13)) ?_
      clear hh h
      intro h hh
      exact rd m hh ⟨(IntKind.i64.wrap (i + 1)), l2, n2, H2, kq hh, rfl⟩
     repeat apply TW.seq
     refine ct (f2 hh c13) ?_
     obtain ⟨g14, H2⟩ := isg H2
     repeat apply TW.seq
     refine rg [] [] [.cells true 3 [lNodes n.nodes, lLinks n.links, lEdges n.edges], .cells true 2 [ints f_.links, .int .i64 f_.node], .cells true n.links.length (l.map (T.int .i64)), .cells false (n2 + 1) ((l2 ++ [i]).map (T.int .i64))] (fun h => h 11 = .arr 2 1 0 n.links.length n.links.length n.links.length ∧ h 14 = .arr 3 1 0 (n2 + 1) (n2 + 1) (n2 + 1) ∧ h 53 = bools rb.2 ∧ h 54 = .int .i64 (rb.2.length : Int) ∧ h 55 = .int .i64 i) (f3 hh c5 (f2 c9 c13)) trivial ?_
     clear hh h
     intro h hh
     repeat apply TW.seq
     refine rk [11, 14, 53, 54, 55] [] (f3 hh c5 (f2 c9 c13)) ?_
     clear hh h
     intro h hh
     exact rd m hh ⟨(IntKind.i64.wrap (i + 1)), (l2 ++ [i]), (n2 + 1), H2, kq hh, rfl⟩
    clear hh h
    rintro h bs ⟨hh, rfl⟩
    repeat apply TW.seq
    refine rk [8, 9, 10] [] (f3 hh c5 c9) ?_
    clear hh h
    intro h hh
    obtain ⟨g15, H1⟩ := isg H1
    obtain ⟨g16, H1⟩ := isg H1
    refine TW.freeze 8 (b := 2) (e := 1) (off := 0) (len := n.links.length) (cap := n.links.length) (M := n.links.length) (l.map (T.int .i64)) (kq hh) (by rfl) (by omega) (by omega) (by rw [List.drop_zero, Nat.mul_one, cells_map (fun _ => rfl), List.take_of_length_le (by rw [List.length_map]; omega)]) (fun t ht => by obtain ⟨x, _, rfl⟩ := List.mem_map.1 ht; first | rfl | (rw [List.length_map]; rfl)) (by rw [List.length_map]; exact g15) (by omega) ?_
    rw [st_set _ _ _ (by simp only [lzA] <;> omega)]
    simp only [scA]
    refine gk [8, 9, 10] hh ?_
    clear hh h
    intro h hh
    refine TW.freeze 9 (b := 3) (e := 1) (off := 0) (len := s_3.2) (cap := s_3.2) (M := s_3.2) (s_3.1.map (T.int .i64)) (kq hh) (by rfl) (by omega) (by omega) (by rw [List.drop_zero, Nat.mul_one, cells_map (fun _ => rfl), List.take_of_length_le (by rw [List.length_map]; omega)]) (fun t ht => by obtain ⟨x, _, rfl⟩ := List.mem_map.1 ht; first | rfl | (rw [List.length_map]; rfl)) (by rw [List.length_map]; exact g16) (by omega) ?_
    rw [st_set _ _ _ (by simp only [lzA] <;> omega)]
    simp only [scA]
    refine gk [8, 9, 10] hh ?_
    clear hh h
    intro h hh
    cases H1
    obtain rfl := sinl H
    exact rt hh
   repeat apply TW.seq
   refine ct (f2 hh c9) ?_
   obtain ⟨rb2, e10, H1⟩ := bsome H1
   repeat apply TW.seq
   refine rkc [2, 3, 4, 5, 11] [] [(.int .i64 rb2.1, stL [.cells true 3 [lNodes n.nodes, lLinks n.links, lEdges n.edges], .cells true 2 [ints f_.links, .int .i64 f_.node], .cells true n.links.length (rb2.2.map (T.int .i64))])] (f3 hh c5 c9) ?_ ?_
   ·exact ⟨ca [2] (sflow_pushU_b_ok ax hx k n.links.length rb.1 from_ to_ 4294967296 l rb2 e10), trivial⟩
   clear hh h
   intro h hh
   refine xk ?_
   cases H1
   exact ce hh ⟨_, rfl, kq hh, rfl⟩
  clear hh h
  rintro h bs ⟨s_2, rfl, hh, rfl⟩
  replace H := sinr H
  exact rd m hh ⟨s_2, H, kq hh, rfl⟩
 repeat apply TW.seq
 refine ct (f2 hh c5) ?_
 repeat apply TW.seq
 refine rk [8, 9, 10] [] (f2 hh c5) ?_
 clear hh h
 intro h hh
 refine nk 8 1 [8, 9, 10] hh ?_
 clear hh h
 intro h hh
 refine nk 9 1 [8, 9, 10] hh ?_
 clear hh h
 intro h hh
 cases H
 exact rt hh
end Go.Proofs.Ytfalnphlgfoflaa