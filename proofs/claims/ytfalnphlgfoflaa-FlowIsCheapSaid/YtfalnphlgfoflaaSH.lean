/- Functions as plain functions, and that the code computes them. -/
import Derived.Test.YtfalnphlgfoflaaSB
import Derived.Test.YtfalnphlgfoflaaRf
namespace Go.Proofs.Ytfalnphlgfoflaa
open Go Go.RowKit
set_option linter.unusedSimpArgs false
set_option linter.unusedVariables false
set_option linter.unusedSectionVars false
set_option maxRecDepth 100000
def sslices_Min_L0 (k : Nat) (x : List Int) : Nat → Int → Int → Option Int
 | 0, _, _ => none
 | m + 1, m_, i => (if i < (x.length : Int) then (if (0 : Int) ≤ i ∧ i < (x.length : Int) then sslices_Min_L0 k x m (min m_ (gx x i)) (IntKind.i64.wrap (i + 1)) else none) else some m_)
def sslices_Min (k : Nat) (x : List Int) : Option Int := (((if (x.length : Int) < 1 then none else some ()) : Option Unit).bind fun s_ => (if (0 : Int) ≤ 0 ∧ 0 < (x.length : Int) then ((sslices_Min_L0 k x k (gx x 0) 1 : Option Int).bind fun s_2 => some s_2) else none))
set_option maxHeartbeats 8000000 in
theorem sslices_Min_ok (ax : Axs) (hx : Plain ax) (k : Nat) (x : List Int) (v : Int) (H : sslices_Min k x = some v) : Pure Try.prog (EE ax) [] 60 [ints x] (.int .i64 v) := by
 rw [sslices_Min] at H
 refine en [.tmp 2] 25 [0] (hx.no _ (by decide)) (fn60 ax) ?_
 intro h hh
 repeat apply TW.seq
 refine rk [0] [] hh ?_
 clear hh h
 intro h hh
 repeat apply TW.seq
 refine rk [0, 7] [] hh ?_
 clear hh h
 intro h hh
 obtain ⟨s_, H1, H⟩ := bsome H
 repeat apply TW.seq
 refine cu [0] 0 (fun h bs => (h 0 = ints x) ∧ bs = []) ?_ ?_
 ·skip
  rcases isp H1 with ⟨c1, H1⟩ | ⟨c1, H1⟩
  rotate_left
  ·skip
   repeat apply TW.seq
   refine cf (f2 hh (decide_eq_false c1)) ?_
   repeat apply TW.seq
   refine sk ?_
   cases H1
   exact ce hh ⟨kq hh, rfl⟩
  repeat apply TW.seq
  refine ct (f2 hh (decide_eq_true c1)) ?_
  cases H1
 clear hh h
 rintro h bs ⟨hh, rfl⟩
 obtain ⟨g2, H⟩ := isg H
 repeat apply TW.seq
 refine rk [0, 3] [] (f2 hh (gx_some g2)) ?_
 clear hh h
 intro h hh
 repeat apply TW.seq
 refine rk [0, 3, 4] [] hh ?_
 clear hh h
 intro h hh
 obtain ⟨s_2, H1, H⟩ := bsome H
 repeat apply TW.seq
 refine cu [3] 0 (fun h bs => (h 3 = .int .i64 s_2) ∧ bs = []) ?_ ?_
 ·skip
  repeat apply TW.seq
  apply TW.block
  repeat apply TW.seq
  refine TW.loopT [0, 3, 4] (fun m h bs => ∃ (m_ : Int) (i : Int), sslices_Min_L0 k x m m_ i = some s_2 ∧ (h 0 = ints x ∧ h 3 = .int .i64 m_ ∧ h 4 = .int .i64 i) ∧ bs = []) ?_ k _ _ ?_
  rotate_left
  ·exact ⟨(gx x 0), 1, H1, kq hh, rfl⟩
  clear hh h H1
  rintro m h bs ⟨m_, i, H1, hh, rfl⟩
  rcases m with _ | m
  ·rw [sslices_Min_L0] at H1; cases H1
  rw [sslices_Min_L0] at H1
  repeat apply TW.seq
  refine rk [0, 3, 4, 15] [] hh ?_
  clear hh h
  intro h hh
  rcases isp H1 with ⟨c3, H1⟩ | ⟨c3, H1⟩
  rotate_left
  ·skip
   repeat apply TW.seq
   refine cf (f2 hh (decide_eq_false c3)) ?_
   refine xk ?_
   cases H1
   exact ce hh ⟨kq hh, rfl⟩
  repeat apply TW.seq
  refine ct (f2 hh (decide_eq_true c3)) ?_
  repeat apply TW.seq
  refine sk ?_
  repeat apply TW.seq
  apply TW.block
  obtain ⟨g4, H1⟩ := isg H1
  repeat apply TW.seq
  refine rk [0, 3, 4] [] (f2 hh (gx_some g4)) ?_
  clear hh h
  intro h hh
  repeat apply TW.seq
  refine rk [0, 3, 4] [] hh ?_
  clear hh h
  intro h hh
  exact rd m hh ⟨(min m_ (gx x i)), (IntKind.i64.wrap (i + 1)), H1, kq hh, rfl⟩
 clear hh h
 rintro h bs ⟨hh, rfl⟩
 repeat apply TW.seq
 refine rk [2] [] hh ?_
 clear hh h
 intro h hh
 cases H
 exact rt hh
def sflow_Cheap_1 (k : Nat) (link : Int) (back : Bool) (fv : List Int) : Option Int := (if back = true then (if (0 : Int) ≤ link ∧ link < (fv.length : Int) then some (IntKind.i64.wrap (0 - (gx fv link))) else none) else (if (0 : Int) ≤ link ∧ link < (fv.length : Int) then some (gx fv link) else none))
set_option maxHeartbeats 8000000 in
theorem sflow_Cheap_1_ok (ax : Axs) (hx : Plain ax) (k : Nat) (link : Int) (back : Bool) (fv : List Int) (v : Int) (H : sflow_Cheap_1 k link back fv = some v) : Pure Try.prog (EE ax) [] 56 [.int .i64 link, .bool back, .cp [ints fv]] (.int .i64 v) := by
 rw [sflow_Cheap_1] at H
 refine en [.tmp 5] 16 [0, 1, 2] (hx.no _ (by decide)) (fn56 ax) ?_
 intro h hh
 repeat apply TW.seq
 refine rk [0, 1, 2] [] hh ?_
 clear hh h
 intro h hh
 repeat apply TW.seq
 refine rk [0, 2, 6] [] hh ?_
 clear hh h
 intro h hh
 rcases isb H with ⟨c1, H⟩ | ⟨c1, H⟩
 rotate_left
 ·skip
  repeat apply TW.seq
  refine cf (f2 hh c1) ?_
  repeat apply TW.seq
  refine sk ?_
  obtain ⟨g3, H⟩ := isg H
  repeat apply TW.seq
  refine rk [5] [] (f3 hh c1 (gx_some g3)) ?_
  clear hh h
  intro h hh
  cases H
  exact rt hh
 repeat apply TW.seq
 refine ct (f2 hh c1) ?_
 obtain ⟨g2, H⟩ := isg H
 repeat apply TW.seq
 refine rk [5] [] (f3 hh c1 (gx_some g2)) ?_
 clear hh h
 intro h hh
 cases H
 exact rt hh
def sflow_arcsI_b_L0 (k : Nat) (n0 : Nat) (n : Net) (f_ : Failure) (a : List Int) (l0 : List Int) : Nat → Int → (List ArcI) → Nat → Option (List ArcI × Nat)
 | 0, _, _, _ => none
 | m + 1, i, l, n2 => (if i < (n.links.length : Int) then (if (0 : Int) ≤ i ∧ i < (n.links.length : Int) then ((sgraph_Up k n f_ i).bind fun rUp => (if rUp = true then (if (0 : Int) ≤ i ∧ i < (n0 : Int) then (if i.toNat < l0.length then (((if (l0.getD i.toNat default) < ((gx n.links i).cap) then ((sflow_Cheap_1 k i false a).bind fun r1 => (if (n2 + 1) * 49 ≤ 1000000000 then some (l ++ [(⟨i, (gx n.links i).frm, (gx n.links i).to, IntKind.i64.wrap (((gx n.links i).cap) - (l0.getD i.toNat default)), false, r1⟩ : ArcI)], n2 + 1) else none)) else some (l, n2)) : Option (List ArcI × Nat)).bind fun s_2 => (if 0 < (l0.getD i.toNat default) then ((sflow_Cheap_1 k i true a).bind fun r12 => (if (s_2.2 + 1) * 49 ≤ 1000000000 then sflow_arcsI_b_L0 k n0 n f_ a l0 m (IntKind.i64.wrap (i + 1)) (s_2.1 ++ [(⟨i, (gx n.links i).to, (gx n.links i).frm, l0.getD i.toNat default, true, r12⟩ : ArcI)]) (s_2.2 + 1) else none)) else sflow_arcsI_b_L0 k n0 n f_ a l0 m (IntKind.i64.wrap (i + 1)) s_2.1 s_2.2)) else none) else none) else sflow_arcsI_b_L0 k n0 n f_ a l0 m (IntKind.i64.wrap (i + 1)) l n2)) else none) else some (l, n2))
def sflow_arcsI_b (k : Nat) (n0 : Nat) (n : Net) (f_ : Failure) (a : List Int) (l0 : List Int) : Option (List ArcI) := ((sflow_arcsI_b_L0 k n0 n f_ a l0 k 0 [] 0 : Option (List ArcI × Nat)).bind fun s_ => (if s_.1.length = s_.2 then some s_.1 else none))
set_option maxHeartbeats 8000000 in
theorem sflow_arcsI_b_ok (ax : Axs) (hx : Plain ax) (k : Nat) (n0 : Nat) (n : Net) (f_ : Failure) (a : List Int) (l0 : List Int) (v : List ArcI) (H : sflow_arcsI_b k n0 n f_ a l0 = some v) : Call Try.prog (EE ax) [] 58 [eNet n, eFail f_, .arr 0 1 0 n0 n0 n0, .fn 56 [] [.cp [ints a]]] (stL [.cells true n0 (l0.map (T.int .i64))]) (tupT [lArcI v]) (stL [.cells true n0 (l0.map (T.int .i64))]) := by
 rw [sflow_arcsI_b] at H
 refine enB [.tmp 8] 74 [0, 1, 2, 3] (hx.no _ (by decide)) (fn58 ax) ?_
 intro h hh
 repeat apply TW.seq
 refine rk [2, 3, 4, 5] [] hh ?_
 clear hh h
 intro h hh
 repeat apply TW.seq
 refine rk [2, 3, 4, 5, 9] [] hh ?_
 clear hh h
 intro h hh
 refine vk 9 6 [2, 3, 4, 5, 9] hh ?_
 clear hh h
 intro h hh
 repeat apply TW.seq
 refine rk [2, 3, 4, 5, 9, 13, 14, 15] [] hh ?_
 clear hh h
 intro h hh
 obtain ⟨s_, H1, H⟩ := bsome H
 repeat apply TW.seq
 refine cu [9] 4 (fun h bs => (h 9 = .arr 3 6 0 s_.2 s_.2 (s_.2 * 6)) ∧ bs = [.cells true n0 (l0.map (T.int .i64)), .cells true 3 [lNodes n.nodes, lLinks n.links, lEdges n.edges], .cells true 2 [ints f_.links, .int .i64 f_.node], .cells false (s_.2 * 6) (vecC eArcI s_.1)]) ?_ ?_
 ·skip
  repeat apply TW.seq
  apply TW.block
  repeat apply TW.seq
  refine TW.loopT [2, 3, 4, 5, 9, 13, 14, 15] (fun m h bs => ∃ (i : Int) (l : List ArcI) (n2 : Nat), sflow_arcsI_b_L0 k n0 n f_ a l0 m i l n2 = some s_ ∧ (h 2 = .arr 0 1 0 n0 n0 n0 ∧ h 3 = .fn 56 [] [.cp [ints a]] ∧ h 4 = .ptr 1 0 3 ∧ h 5 = .ptr 2 0 2 ∧ h 9 = .arr 3 6 0 n2 n2 (n2 * 6) ∧ h 13 = lLinks n.links ∧ h 14 = .int .i64 (n.links.length : Int) ∧ h 15 = .int .i64 i) ∧ bs = [.cells true n0 (l0.map (T.int .i64)), .cells true 3 [lNodes n.nodes, lLinks n.links, lEdges n.edges], .cells true 2 [ints f_.links, .int .i64 f_.node], .cells false (n2 * 6) (vecC eArcI l)]) ?_ k _ _ ?_
  rotate_left
  ·exact ⟨0, [], 0, H1, kq hh, rfl⟩
  clear hh h H1
  rintro m h bs ⟨i, l, n2, H1, hh, rfl⟩
  rcases m with _ | m
  ·rw [sflow_arcsI_b_L0] at H1; cases H1
  rw [sflow_arcsI_b_L0] at H1
  repeat apply TW.seq
  refine rk [2, 3, 4, 5, 9, 13, 14, 15, 16] [] hh ?_
  clear hh h
  intro h hh
  rcases isp H1 with ⟨c1, H1⟩ | ⟨c1, H1⟩
  rotate_left
  ·skip
   repeat apply TW.seq
   refine cf (f2 hh (decide_eq_false c1)) ?_
   refine xk ?_
   cases H1
   exact ce hh ⟨kq hh, rfl⟩
  repeat apply TW.seq
  refine ct (f2 hh (decide_eq_true c1)) ?_
  repeat apply TW.seq
  refine sk ?_
  repeat apply TW.seq
  apply TW.block
  obtain ⟨g2, H1⟩ := isg H1
  repeat apply TW.seq
  refine rk [2, 3, 4, 5, 9, 10, 11, 13, 14, 15] [] (f2 hh (gx_some g2)) ?_
  clear hh h
  intro h hh
  obtain ⟨rUp, e3, H1⟩ := bsome H1
  repeat apply TW.seq
  refine rkc [2, 3, 4, 5, 9, 10, 11, 13, 14, 15, 24] [] [(.bool rUp, stL [.cells true n0 (l0.map (T.int .i64)), .cells true 3 [lNodes n.nodes, lLinks n.links, lEdges n.edges], .cells true 2 [ints f_.links, .int .i64 f_.node], .cells false (n2 * 6) (vecC eArcI l), .cells true 3 [.int .i64 ((gx n.links i).frm), .int .i64 ((gx n.links i).to), .int .i64 ((gx n.links i).cap)]])] hh ?_ ?_
  ·exact ⟨Call0.call ((sgraph_Up_ok ax hx k n f_ i rUp e3 ).call _), trivial⟩
  clear hh h
  intro h hh
  rcases isb H1 with ⟨c4, H1⟩ | ⟨c4, H1⟩
  rotate_left
  ·skip
   repeat apply TW.seq
   refine ct (f2 hh c4) ?_
   refine xk ?_
   repeat apply TW.seq
   refine rk [2, 3, 4, 5, 9, 13, 14, 15] [] (f2 hh c4) ?_
   clear hh h
   intro h hh
   exact rd m hh ⟨(IntKind.i64.wrap (i + 1)), l, n2, H1, kq hh, rfl⟩
  repeat apply TW.seq
  refine cf (f2 hh c4) ?_
  repeat apply TW.seq
  refine sk ?_
  obtain ⟨g5, H1⟩ := isg H1
  obtain ⟨g6, H1⟩ := isg H1
  repeat apply TW.seq
  refine dk 6 [2, 3, 4, 5, 9, 10, 11, 13, 14, 15, 31] [] [] [] (f3 hh c4 (get_some g6)) trivial trivial ?_
  clear hh h
  intro h hh
  obtain ⟨s_2, H2, H1⟩ := bsome H1
  repeat apply TW.seq
  refine cu [2, 3, 4, 5, 9, 10, 11, 13, 14, 15] 5 (fun h bs => (h 2 = .arr 0 1 0 n0 n0 n0 ∧ h 3 = .fn 56 [] [.cp [ints a]] ∧ h 4 = .ptr 1 0 3 ∧ h 5 = .ptr 2 0 2 ∧ h 9 = .arr 3 6 0 s_2.2 s_2.2 (s_2.2 * 6) ∧ h 10 = .int .i64 i ∧ h 11 = .ptr 4 0 3 ∧ h 13 = lLinks n.links ∧ h 14 = .int .i64 (n.links.length : Int) ∧ h 15 = .int .i64 i) ∧ bs = [.cells true n0 (l0.map (T.int .i64)), .cells true 3 [lNodes n.nodes, lLinks n.links, lEdges n.edges], .cells true 2 [ints f_.links, .int .i64 f_.node], .cells false (s_2.2 * 6) (vecC eArcI s_2.1), .cells true 3 [.int .i64 ((gx n.links i).frm), .int .i64 ((gx n.links i).to), .int .i64 ((gx n.links i).cap)]]) ?_ ?_
  ·skip
   rcases isp H2 with ⟨c7, H2⟩ | ⟨c7, H2⟩
   rotate_left
   ·skip
    repeat apply TW.seq
    refine cf (f2 hh (decide_eq_false c7)) ?_
    repeat apply TW.seq
    refine sk ?_
    cases H2
    exact ce hh ⟨kq hh, rfl⟩
   repeat apply TW.seq
   refine ct (f2 hh (decide_eq_true c7)) ?_
   obtain ⟨r1, e8, H2⟩ := bsome H2
   obtain ⟨g9, H2⟩ := isg H2
   repeat apply TW.seq
   refine dg 16 [.int .i64 r1] [] [] [.cells true n0 (l0.map (T.int .i64)), .cells true 3 [lNodes n.nodes, lLinks n.links, lEdges n.edges], .cells true 2 [ints f_.links, .int .i64 f_.node], .cells false ((n2 + 1) * 6) (vecC eArcI (l ++ [(⟨i, (gx n.links i).frm, (gx n.links i).to, IntKind.i64.wrap (((gx n.links i).cap) - (l0.getD i.toNat default)), false, r1⟩ : ArcI)])), .cells true 3 [.int .i64 ((gx n.links i).frm), .int .i64 ((gx n.links i).to), .int .i64 ((gx n.links i).cap)]] (fun h => h 2 = .arr 0 1 0 n0 n0 n0 ∧ h 3 = .fn 56 [] [.cp [ints a]] ∧ h 4 = .ptr 1 0 3 ∧ h 5 = .ptr 2 0 2 ∧ h 9 = .arr 3 6 0 (n2 + 1) (n2 + 1) ((n2 + 1) * 6) ∧ h 10 = .int .i64 i ∧ h 11 = .ptr 4 0 3 ∧ h 13 = lLinks n.links ∧ h 14 = .int .i64 (n.links.length : Int) ∧ h 15 = .int .i64 i) (f3 hh c4 (f3 (get_some g6) (bt113 ax) (f3 (el89 ax) (pl113_0 ax) (f3 (pl113_1 ax) (pl113_2 ax) (f3 (pl113_3 ax) (pl113_4 ax) (f2 (pl113_5 ax) (sr89 ax))))))) ?_ trivial ?_
   ·exact ⟨Pure.clr (sflow_Cheap_1_ok ax hx k i false a r1 e8 ) (by first | rfl | simp only [c4]), trivial⟩
   clear hh h
   intro h hh
   cases H2
   exact ce hh ⟨kq hh, rfl⟩
  clear hh h
  rintro h bs ⟨hh, rfl⟩
  repeat apply TW.seq
  refine rk [2, 3, 4, 5, 9, 10, 11, 13, 14, 15, 55] [] (f3 hh c4 (get_some g6)) ?_
  clear hh h
  intro h hh
  rcases isp H1 with ⟨c10, H1⟩ | ⟨c10, H1⟩
  rotate_left
  ·skip
   repeat apply TW.seq
   refine cf (f2 hh (decide_eq_false c10)) ?_
   repeat apply TW.seq
   refine sk ?_
   repeat apply TW.seq
   refine rk [2, 3, 4, 5, 9, 13, 14, 15] [] (f2 hh c4) ?_
   clear hh h
   intro h hh
   exact rd m hh ⟨(IntKind.i64.wrap (i + 1)), s_2.1, s_2.2, H1, kq hh, rfl⟩
  repeat apply TW.seq
  refine ct (f2 hh (decide_eq_true c10)) ?_
  obtain ⟨r12, e11, H1⟩ := bsome H1
  obtain ⟨g12, H1⟩ := isg H1
  repeat apply TW.seq
  refine dg 13 [.int .i64 r12] [] [] [.cells true n0 (l0.map (T.int .i64)), .cells true 3 [lNodes n.nodes, lLinks n.links, lEdges n.edges], .cells true 2 [ints f_.links, .int .i64 f_.node], .cells false ((s_2.2 + 1) * 6) (vecC eArcI (s_2.1 ++ [(⟨i, (gx n.links i).to, (gx n.links i).frm, l0.getD i.toNat default, true, r12⟩ : ArcI)])), .cells true 3 [.int .i64 ((gx n.links i).frm), .int .i64 ((gx n.links i).to), .int .i64 ((gx n.links i).cap)]] (fun h => h 2 = .arr 0 1 0 n0 n0 n0 ∧ h 3 = .fn 56 [] [.cp [ints a]] ∧ h 4 = .ptr 1 0 3 ∧ h 5 = .ptr 2 0 2 ∧ h 9 = .arr 3 6 0 (s_2.2 + 1) (s_2.2 + 1) ((s_2.2 + 1) * 6) ∧ h 13 = lLinks n.links ∧ h 14 = .int .i64 (n.links.length : Int) ∧ h 15 = .int .i64 i) (f3 hh c4 (f3 (get_some g6) (bt113 ax) (f3 (el89 ax) (pl113_0 ax) (f3 (pl113_1 ax) (pl113_2 ax) (f3 (pl113_3 ax) (pl113_4 ax) (f2 (pl113_5 ax) (sr89 ax))))))) ?_ trivial ?_
  ·exact ⟨Pure.clr (sflow_Cheap_1_ok ax hx k i true a r12 e11 ) (by first | rfl | simp only [c4]), trivial⟩
  clear hh h
  intro h hh
  repeat apply TW.seq
  refine rk [2, 3, 4, 5, 9, 13, 14, 15] [] (f2 hh c4) ?_
  clear hh h
  intro h hh
  exact rd m hh ⟨(IntKind.i64.wrap (i + 1)), (s_2.1 ++ [(⟨i, (gx n.links i).to, (gx n.links i).frm, l0.getD i.toNat default, true, r12⟩ : ArcI)]), (s_2.2 + 1), H1, kq hh, rfl⟩
 clear hh h
 rintro h bs ⟨hh, rfl⟩
 repeat apply TW.seq
 refine rk [8] [] hh ?_
 clear hh h
 intro h hh
 obtain ⟨g13, H⟩ := isg H
 refine TW.freeze 8 (b := 3) (e := 6) (off := 0) (len := s_.2) (cap := s_.2) (M := (s_.2 * 6)) (s_.1.map eArcI) (kq hh) (by rfl) (by omega) (by omega) (by rw [List.drop_zero]; exact vecC_take (fun _ => rfl) g13) (fun t ht => by obtain ⟨x, _, rfl⟩ := List.mem_map.1 ht; first | rfl | (rw [List.length_map]; rfl)) (by rw [List.length_map]; exact g13) (by omega) ?_
 rw [st_set _ _ _ (by simp only [lzA] <;> omega)]
 simp only [scA]
 refine gk [8] hh ?_
 clear hh h
 intro h hh
 cases H
 exact rtB hh
def sflow_distances_b_L0 (k : Nat) (n : Net) (from_ : Int) : Nat → Int → (List Int) → Option (List Int)
 | 0, _, _ => none
 | m + 1, i, l => (if i < (n.nodes.length : Int) then (if 0 ≤ from_ then (if i ≠ from_ then (if (0 : Int) ≤ i ∧ i < (n.nodes.length : Int) then (if i.toNat < l.length then sflow_distances_b_L0 k n from_ m (IntKind.i64.wrap (i + 1)) (l.set i.toNat 1125899906842624) else none) else none) else sflow_distances_b_L0 k n from_ m (IntKind.i64.wrap (i + 1)) l) else sflow_distances_b_L0 k n from_ m (IntKind.i64.wrap (i + 1)) l) else some l)
def sflow_distances_b_L2 (k : Nat) (n : Net) (all : List ArcI) : Nat → Int → (List Int) → (List (Option ArcI)) → Option (List Int × List (Option ArcI))
 | 0, _, _, _ => none
 | m + 1, i3, l4, l5 => (if i3 < (all.length : Int) then (if (0 : Int) ≤ i3 ∧ i3 < (all.length : Int) then (if (0 : Int) ≤ ((gx all i3).frm) ∧ ((gx all i3).frm) < (n.nodes.length : Int) then (if ((gx all i3).frm).toNat < l4.length then (if (l4.getD ((gx all i3).frm).toNat default) < 1125899906842624 then (if (0 : Int) ≤ ((gx all i3).to) ∧ ((gx all i3).to) < (n.nodes.length : Int) then (if ((gx all i3).to).toNat < l4.length then (if (IntKind.i64.wrap ((l4.getD ((gx all i3).frm).toNat default) + ((gx all i3).weight))) < (l4.getD ((gx all i3).to).toNat default) then (if ((gx all i3).to).toNat < l5.length then sflow_distances_b_L2 k n all m (IntKind.i64.wrap (i3 + 1)) (l4.set ((gx all i3).to).toNat (IntKind.i64.wrap ((l4.getD ((gx all i3).frm).toNat default) + ((gx all i3).weight)))) (l5.set ((gx all i3).to).toNat (some (gx all i3))) else none) else sflow_distances_b_L2 k n all m (IntKind.i64.wrap (i3 + 1)) l4 l5) else none) else none) else sflow_distances_b_L2 k n all m (IntKind.i64.wrap (i3 + 1)) l4 l5) else none) else none) else none) else some (l4, l5))
def sflow_distances_b_L1 (k : Nat) (n : Net) (all : List ArcI) : Nat → Int → (List Int) → (List (Option ArcI)) → Option (List Int × List (Option ArcI))
 | 0, _, _, _ => none
 | m + 1, i2, l2, l3 => (if i2 < (n.nodes.length : Int) then ((((sflow_distances_b_L2 k n all k 0 l2 l3 : Option (List Int × List (Option ArcI))).bind fun s_4 => some (s_4.1, s_4.2)) : Option (List Int × List (Option ArcI))).bind fun s_3 => sflow_distances_b_L1 k n all m (IntKind.i64.wrap (i2 + 1)) s_3.1 s_3.2) else some (l2, l3))
def sflow_distances_b (k : Nat) (n : Net) (all : List ArcI) (from_ : Int) : Option (List (Option ArcI) × List Int × Nat) := (if n.nodes.length * 9 ≤ 1000000000 then ((sflow_distances_b_L0 k n from_ k 0 (List.replicate n.nodes.length 0) : Option (List Int)).bind fun s_ => ((sflow_distances_b_L1 k n all k 0 s_ (List.replicate n.nodes.length none) : Option (List Int × List (Option ArcI))).bind fun s_2 => (if s_2.2.length = n.nodes.length then some (s_2.2, s_2.1, n.nodes.length) else none))) else none)
set_option maxHeartbeats 8000000 in
theorem sflow_distances_b_ok (ax : Axs) (hx : Plain ax) (k : Nat) (n : Net) (all : List ArcI) (from_ : Int) (v : List (Option ArcI) × List Int × Nat) (H : sflow_distances_b k n all from_ = some v) : Call Try.prog (EE ax) [] 57 [eNet n, lArcI all, .int .i64 from_] (stL []) (tupT [.arr 1 1 0 v.2.2 v.2.2 v.2.2, lPArcI v.1]) (stL [.gone, .cells false v.2.2 (v.2.1.map (T.int .i64))]) := by
 rw [sflow_distances_b] at H
 refine enBr [.tmp 6, .tmp 7] 109 [0, 1, 2] (hx.no _ (by decide)) (fn57 ax) ?_
 intro h hh
 repeat apply TW.seq
 refine rk [1, 2, 3] [] hh ?_
 clear hh h
 intro h hh
 refine zk 3 0 3 true [lNodes n.nodes, lLinks n.links, lEdges n.edges] [1, 2, 3] hh ?_
 clear hh h
 intro h hh
 obtain ⟨g1, H⟩ := isg H
 repeat apply TW.seq
 refine ds 3 [(13, none), (16, some 1), (17, none)] [1, 2, 3, 8, 9] [] [] [] (f3 hh (repPI (n.nodes.length)) (f2 (el86 ax) (fc26_0 ax))) trivial trivial ?_
 clear hh h
 intro h hh
 repeat apply TW.seq
 refine rk [1, 2, 3, 8, 9, 22, 23] [] hh ?_
 clear hh h
 intro h hh
 obtain ⟨s_, H1, H⟩ := bsome H
 repeat apply TW.seq
 refine cu [1, 3, 8, 9] 3 (fun h bs => (h 1 = lArcI all ∧ h 3 = .cp [lNodes n.nodes, lLinks n.links, lEdges n.edges] ∧ h 8 = .arr 1 1 0 n.nodes.length n.nodes.length n.nodes.length ∧ h 9 = .arr 2 1 0 n.nodes.length n.nodes.length n.nodes.length) ∧ bs = [.gone, .cells true n.nodes.length (s_.map (T.int .i64)), .cells true n.nodes.length ((List.replicate n.nodes.length none).map pArcI)]) ?_ ?_
 ·skip
  repeat apply TW.seq
  apply TW.block
  repeat apply TW.seq
  refine TW.loopT [1, 2, 3, 8, 9, 22, 23] (fun m h bs => ∃ (i : Int) (l : List Int), sflow_distances_b_L0 k n from_ m i l = some s_ ∧ (h 1 = lArcI all ∧ h 2 = .int .i64 from_ ∧ h 3 = .cp [lNodes n.nodes, lLinks n.links, lEdges n.edges] ∧ h 8 = .arr 1 1 0 n.nodes.length n.nodes.length n.nodes.length ∧ h 9 = .arr 2 1 0 n.nodes.length n.nodes.length n.nodes.length ∧ h 22 = .int .i64 (n.nodes.length : Int) ∧ h 23 = .int .i64 i) ∧ bs = [.gone, .cells true n.nodes.length (l.map (T.int .i64)), .cells true n.nodes.length ((List.replicate n.nodes.length none).map pArcI)]) ?_ k _ _ ?_
  rotate_left
  ·exact ⟨0, (List.replicate n.nodes.length 0), H1, kq hh, rfl⟩
  clear hh h H1
  rintro m h bs ⟨i, l, H1, hh, rfl⟩
  rcases m with _ | m
  ·rw [sflow_distances_b_L0] at H1; cases H1
  rw [sflow_distances_b_L0] at H1
  repeat apply TW.seq
  refine rk [1, 2, 3, 8, 9, 22, 23, 24] [] hh ?_
  clear hh h
  intro h hh
  rcases isp H1 with ⟨c2, H1⟩ | ⟨c2, H1⟩
  rotate_left
  ·skip
   repeat apply TW.seq
   refine cf (f2 hh (decide_eq_false c2)) ?_
   refine xk ?_
   cases H1
   exact ce hh ⟨kq hh, rfl⟩
  repeat apply TW.seq
  refine ct (f2 hh (decide_eq_true c2)) ?_
  repeat apply TW.seq
  refine sk ?_
  repeat apply TW.seq
  apply TW.block
  repeat apply TW.seq
  refine rk [1, 2, 3, 8, 9, 10, 22, 23] [] hh ?_
  clear hh h
  intro h hh
  rcases isp H1 with ⟨c3, H1⟩ | ⟨c3, H1⟩
  rotate_left
  ·skip
   repeat apply TW.seq
   refine rk [1, 2, 3, 8, 9, 10, 22, 23, 32] [] (f2 hh (decide_eq_false c3)) ?_
   clear hh h
   intro h hh
   repeat apply TW.seq
   refine cf hh ?_
   repeat apply TW.seq
   refine sk ?_
   repeat apply TW.seq
   refine rk [1, 2, 3, 8, 9, 22, 23] [] hh ?_
   clear hh h
   intro h hh
   exact rd m hh ⟨(IntKind.i64.wrap (i + 1)), l, H1, kq hh, rfl⟩
  repeat apply TW.seq
  refine rk [1, 2, 3, 8, 9, 10, 22, 23, 32] [] (f2 hh (decide_eq_true c3)) ?_
  clear hh h
  intro h hh
  rcases isp H1 with ⟨c4, H1⟩ | ⟨c4, H1⟩
  rotate_left
  ·skip
   repeat apply TW.seq
   refine cf (f2 hh (decide_eq_false c4)) ?_
   repeat apply TW.seq
   refine sk ?_
   repeat apply TW.seq
   refine rk [1, 2, 3, 8, 9, 22, 23] [] hh ?_
   clear hh h
   intro h hh
   exact rd m hh ⟨(IntKind.i64.wrap (i + 1)), l, H1, kq hh, rfl⟩
  repeat apply TW.seq
  refine ct (f2 hh (decide_eq_true c4)) ?_
  obtain ⟨g5, H1⟩ := isg H1
  obtain ⟨g6, H1⟩ := isg H1
  repeat apply TW.seq
  refine rk [1, 2, 3, 8, 9, 22, 23] [] (f2 hh (fun f v => @spl_map _ _ f _ v g6)) ?_
  clear hh h
  intro h hh
  repeat apply TW.seq
  refine rk [1, 2, 3, 8, 9, 22, 23] [] hh ?_
  clear hh h
  intro h hh
  exact rd m hh ⟨(IntKind.i64.wrap (i + 1)), (l.set i.toNat 1125899906842624), H1, kq hh, rfl⟩
 clear hh h
 rintro h bs ⟨hh, rfl⟩
 repeat apply TW.seq
 refine rk [1, 8, 9, 39, 40] [] (f2 hh (fc26_0 ax)) ?_
 clear hh h
 intro h hh
 obtain ⟨s_2, H1, H⟩ := bsome H
 repeat apply TW.seq
 refine cu [8, 9] 3 (fun h bs => (h 8 = .arr 1 1 0 n.nodes.length n.nodes.length n.nodes.length ∧ h 9 = .arr 2 1 0 n.nodes.length n.nodes.length n.nodes.length) ∧ bs = [.gone, .cells true n.nodes.length (s_2.1.map (T.int .i64)), .cells true n.nodes.length (s_2.2.map pArcI)]) ?_ ?_
 ·skip
  repeat apply TW.seq
  apply TW.block
  repeat apply TW.seq
  refine TW.loopT [1, 8, 9, 39, 40] (fun m h bs => ∃ (i2 : Int) (l2 : List Int) (l3 : List (Option ArcI)), sflow_distances_b_L1 k n all m i2 l2 l3 = some s_2 ∧ (h 1 = lArcI all ∧ h 8 = .arr 1 1 0 n.nodes.length n.nodes.length n.nodes.length ∧ h 9 = .arr 2 1 0 n.nodes.length n.nodes.length n.nodes.length ∧ h 39 = .int .i64 (n.nodes.length : Int) ∧ h 40 = .int .i64 i2) ∧ bs = [.gone, .cells true n.nodes.length (l2.map (T.int .i64)), .cells true n.nodes.length (l3.map pArcI)]) ?_ k _ _ ?_
  rotate_left
  ·exact ⟨0, s_, (List.replicate n.nodes.length none), H1, kq hh, rfl⟩
  clear hh h H1
  rintro m h bs ⟨i2, l2, l3, H1, hh, rfl⟩
  rcases m with _ | m
  ·rw [sflow_distances_b_L1] at H1; cases H1
  rw [sflow_distances_b_L1] at H1
  repeat apply TW.seq
  refine rk [1, 8, 9, 39, 40, 41] [] hh ?_
  clear hh h
  intro h hh
  rcases isp H1 with ⟨c7, H1⟩ | ⟨c7, H1⟩
  rotate_left
  ·skip
   repeat apply TW.seq
   refine cf (f2 hh (decide_eq_false c7)) ?_
   refine xk ?_
   cases H1
   exact ce hh ⟨kq hh, rfl⟩
  repeat apply TW.seq
  refine ct (f2 hh (decide_eq_true c7)) ?_
  repeat apply TW.seq
  refine sk ?_
  obtain ⟨s_3, H2, H1⟩ := bsome H1
  repeat apply TW.seq
  refine cu [1, 8, 9, 39, 40] 3 (fun h bs => (h 1 = lArcI all ∧ h 8 = .arr 1 1 0 n.nodes.length n.nodes.length n.nodes.length ∧ h 9 = .arr 2 1 0 n.nodes.length n.nodes.length n.nodes.length ∧ h 39 = .int .i64 (n.nodes.length : Int) ∧ h 40 = .int .i64 i2) ∧ bs = [.gone, .cells true n.nodes.length (s_3.1.map (T.int .i64)), .cells true n.nodes.length (s_3.2.map pArcI)]) ?_ ?_
  ·skip
   repeat apply TW.seq
   apply TW.block
   repeat apply TW.seq
   refine rk [1, 8, 9, 39, 40, 43, 44] [] (f2 hh (ti89 ax)) ?_
   clear hh h
   intro h hh
   obtain ⟨s_4, H3, H2⟩ := bsome H2
   repeat apply TW.seq
   refine cu [1, 8, 9, 39, 40] 3 (fun h bs => (h 1 = lArcI all ∧ h 8 = .arr 1 1 0 n.nodes.length n.nodes.length n.nodes.length ∧ h 9 = .arr 2 1 0 n.nodes.length n.nodes.length n.nodes.length ∧ h 39 = .int .i64 (n.nodes.length : Int) ∧ h 40 = .int .i64 i2) ∧ bs = [.gone, .cells true n.nodes.length (s_4.1.map (T.int .i64)), .cells true n.nodes.length (s_4.2.map pArcI)]) ?_ ?_
   ·skip
    repeat apply TW.seq
    apply TW.block
    repeat apply TW.seq
    refine TW.loopT [1, 8, 9, 39, 40, 43, 44] (fun m h bs => ∃ (i3 : Int) (l4 : List Int) (l5 : List (Option ArcI)), sflow_distances_b_L2 k n all m i3 l4 l5 = some s_4 ∧ (h 1 = lArcI all ∧ h 8 = .arr 1 1 0 n.nodes.length n.nodes.length n.nodes.length ∧ h 9 = .arr 2 1 0 n.nodes.length n.nodes.length n.nodes.length ∧ h 39 = .int .i64 (n.nodes.length : Int) ∧ h 40 = .int .i64 i2 ∧ h 43 = .int .i64 (all.length : Int) ∧ h 44 = .int .i64 i3) ∧ bs = [.gone, .cells true n.nodes.length (l4.map (T.int .i64)), .cells true n.nodes.length (l5.map pArcI)]) ?_ k _ _ ?_
    rotate_left
    ·exact ⟨0, l2, l3, H3, kq hh, rfl⟩
    clear hh h H3
    rintro m h bs ⟨i3, l4, l5, H3, hh, rfl⟩
    rcases m with _ | m
    ·rw [sflow_distances_b_L2] at H3; cases H3
    rw [sflow_distances_b_L2] at H3
    repeat apply TW.seq
    refine rk [1, 8, 9, 39, 40, 43, 44, 45] [] hh ?_
    clear hh h
    intro h hh
    rcases isp H3 with ⟨c8, H3⟩ | ⟨c8, H3⟩
    rotate_left
    ·skip
     repeat apply TW.seq
     refine cf (f2 hh (decide_eq_false c8)) ?_
     refine xk ?_
     cases H3
     exact ce hh ⟨kq hh, rfl⟩
    repeat apply TW.seq
    refine ct (f2 hh (decide_eq_true c8)) ?_
    repeat apply TW.seq
    refine sk ?_
    repeat apply TW.seq
    apply TW.block
    repeat apply TW.seq
    refine rk [1, 8, 9, 11, 39, 40, 43, 44] [] hh ?_
    clear hh h
    intro h hh
    obtain ⟨g9, H3⟩ := isg H3
    repeat apply TW.seq
    refine rk [1, 8, 9, 12, 39, 40, 43, 44] [] (f3 hh (gx_some g9) (f2 (ti113 ax) (ti89 ax))) ?_
    clear hh h
    intro h hh
    obtain ⟨g10, H3⟩ := isg H3
    obtain ⟨g11, H3⟩ := isg H3
    rcases isp H3 with ⟨c12, H3⟩ | ⟨c12, H3⟩
    rotate_left
    ·skip
     repeat apply TW.seq
     refine dk 28 [1, 8, 9, 12, 39, 40, 43, 44, 79] [] [] [] (f3 hh (decide_eq_false c12) (f2 (get_some g11) (fc113_1 ax))) trivial trivial ?_
     clear hh h
     intro h hh
     repeat apply TW.seq
     refine cf hh ?_
     repeat apply TW.seq
     refine sk ?_
     repeat apply TW.seq
     refine rk [1, 8, 9, 39, 40, 43, 44] [] hh ?_
     clear hh h
     intro h hh
     exact rd m hh ⟨(IntKind.i64.wrap (i3 + 1)), l4, l5, H3, kq hh, rfl⟩
    obtain ⟨g13, H3⟩ := isg H3
    obtain ⟨g14, H3⟩ := isg H3
    repeat apply TW.seq
    refine dk 28 [1, 8, 9, 12, 39, 40, 43, 44, 79] [] [] [] (f3 hh (decide_eq_true c12) (f3 (get_some g11) (get_some g14) (f3 (fc113_1 ax) (fc113_2 ax) (fc113_5 ax)))) trivial trivial ?_
    clear hh h
    intro h hh
    rcases isp H3 with ⟨c15, H3⟩ | ⟨c15, H3⟩
    rotate_left
    ·skip
     repeat apply TW.seq
     refine cf (f2 hh (decide_eq_false c15)) ?_
     repeat apply TW.seq
     refine sk ?_
     repeat apply TW.seq
     refine rk [1, 8, 9, 39, 40, 43, 44] [] hh ?_
     clear hh h
     intro h hh
     exact rd m hh ⟨(IntKind.i64.wrap (i3 + 1)), l4, l5, H3, kq hh, rfl⟩
    repeat apply TW.seq
    refine ct (f2 hh (decide_eq_true c15)) ?_
    obtain ⟨g16, H3⟩ := isg H3
    repeat apply TW.seq
    refine dk 21 [1, 8, 9, 39, 40, 43, 44] [] [] [] (f3 hh (get_some g11) (f3 (fun f v => @spl_map _ _ f _ v g14) (show spl (l5.map pArcI) ((gx all i3).to).toNat [.cp [.int .i64 ((gx all i3).link), .int .i64 ((gx all i3).frm), .int .i64 ((gx all i3).to), .int .i64 ((gx all i3).room), .bool ((gx all i3).back), .int .i64 ((gx all i3).weight)]] = _ from spl_map (v := (some (gx all i3))) g16) (f3 (fc113_1 ax) (fc113_2 ax) (f3 (fc113_5 ax) (ti111 ax) (ti86 ax))))) trivial trivial ?_
    clear hh h
    intro h hh
    repeat apply TW.seq
    refine rk [1, 8, 9, 39, 40, 43, 44] [] hh ?_
    clear hh h
    intro h hh
    exact rd m hh ⟨(IntKind.i64.wrap (i3 + 1)), (l4.set ((gx all i3).to).toNat (IntKind.i64.wrap ((l4.getD ((gx all i3).frm).toNat default) + ((gx all i3).weight)))), (l5.set ((gx all i3).to).toNat (some (gx all i3))), H3, kq hh, rfl⟩
   clear hh h
   rintro h bs ⟨hh, rfl⟩
   cases H2
   exact ce hh ⟨kq hh, rfl⟩
  clear hh h
  rintro h bs ⟨hh, rfl⟩
  repeat apply TW.seq
  refine rk [1, 8, 9, 39, 40] [] hh ?_
  clear hh h
  intro h hh
  exact rd m hh ⟨(IntKind.i64.wrap (i2 + 1)), s_3.1, s_3.2, H1, kq hh, rfl⟩
 clear hh h
 rintro h bs ⟨hh, rfl⟩
 repeat apply TW.seq
 refine rk [6, 7] [] hh ?_
 clear hh h
 intro h hh
 obtain ⟨g17, H⟩ := isg H
 refine TW.freeze 7 (b := 2) (e := 1) (off := 0) (len := n.nodes.length) (cap := n.nodes.length) (M := n.nodes.length) (s_2.2.map pArcI) (kq hh) (by rfl) (by omega) (by omega) (by rw [List.drop_zero, Nat.mul_one, cells_map celPI, List.take_of_length_le (by rw [List.length_map]; omega)]) (fun t ht => by obtain ⟨x, _, rfl⟩ := List.mem_map.1 ht; first | rfl | (rw [celPI]; rfl)) (by rw [List.length_map]; exact g17) (by omega) ?_
 rw [st_set _ _ _ (by simp only [lzA] <;> omega)]
 simp only [scA]
 refine gk [6, 7] hh ?_
 clear hh h
 intro h hh
 refine uz 1 ?_
 cases H
 exact rtB hh
def sflow_pushI_b_L0 (k : Nat) (by_ : List (Option ArcI)) (from_ : Int) : Nat → Int → Int → Option Int
 | 0, _, _ => none
 | m + 1, amount2, at_ => (if at_ ≠ from_ then (if (0 : Int) ≤ at_ ∧ at_ < (by_.length : Int) then (if (gx by_ at_).isSome = true then sflow_pushI_b_L0 k by_ from_ m (min amount2 (((gx by_ at_).getD default).room)) (((gx by_ at_).getD default).frm) else none) else none) else some amount2)
def sflow_pushI_b_L1 (k : Nat) (n0 : Nat) (by_ : List (Option ArcI)) (from_ : Int) (s_ : Int) : Nat → Int → (List Int) → Option (List Int)
 | 0, _, _ => none
 | m + 1, at_2, l => (if at_2 ≠ from_ then (if (0 : Int) ≤ at_2 ∧ at_2 < (by_.length : Int) then (if (gx by_ at_2).isSome = true then (if ((gx by_ at_2).getD default).back = true then (if (0 : Int) ≤ (((gx by_ at_2).getD default).link) ∧ (((gx by_ at_2).getD default).link) < (n0 : Int) then (if (((gx by_ at_2).getD default).link).toNat < l.length then sflow_pushI_b_L1 k n0 by_ from_ s_ m (((gx by_ at_2).getD default).frm) (l.set (((gx by_ at_2).getD default).link).toNat (IntKind.i64.wrap ((l.getD (((gx by_ at_2).getD default).link).toNat default) - s_))) else none) else none) else (if (0 : Int) ≤ (((gx by_ at_2).getD default).link) ∧ (((gx by_ at_2).getD default).link) < (n0 : Int) then (if (((gx by_ at_2).getD default).link).toNat < l.length then sflow_pushI_b_L1 k n0 by_ from_ s_ m (((gx by_ at_2).getD default).frm) (l.set (((gx by_ at_2).getD default).link).toNat (IntKind.i64.wrap ((l.getD (((gx by_ at_2).getD default).link).toNat default) + s_))) else none) else none)) else none) else none) else some l)
def sflow_pushI_b (k : Nat) (n0 : Nat) (by_ : List (Option ArcI)) (from_ : Int) (to_ : Int) (amount : Int) (l0 : List Int) : Option (Int × List Int) := ((sflow_pushI_b_L0 k by_ from_ k amount to_ : Option Int).bind fun s_ => ((sflow_pushI_b_L1 k n0 by_ from_ s_ k to_ l0 : Option (List Int)).bind fun s_2 => some (s_, s_2)))
set_option maxHeartbeats 8000000 in
theorem sflow_pushI_b_ok (ax : Axs) (hx : Plain ax) (k : Nat) (n0 : Nat) (by_ : List (Option ArcI)) (from_ : Int) (to_ : Int) (amount : Int) (l0 : List Int) (v : Int × List Int) (H : sflow_pushI_b k n0 by_ from_ to_ amount l0 = some v) : Call Try.prog (EE ax) [] 59 [.arr 0 1 0 n0 n0 n0, lPArcI by_, .int .i64 from_, .int .i64 to_, .int .i64 amount] (stL [.cells true n0 (l0.map (T.int .i64))]) (tupT [.int .i64 v.1]) (stL [.cells true n0 (v.2.map (T.int .i64))]) := by
 rw [sflow_pushI_b] at H
 refine enB [.tmp 10] 74 [0, 1, 2, 3, 4] (hx.no _ (by decide)) (fn59 ax) ?_
 intro h hh
 repeat apply TW.seq
 refine rk [0, 1, 2, 3, 4] [] hh ?_
 clear hh h
 intro h hh
 repeat apply TW.seq
 refine rk [0, 1, 2, 3, 4, 11] [] hh ?_
 clear hh h
 intro h hh
 obtain ⟨s_, H1, H⟩ := bsome H
 repeat apply TW.seq
 refine cu [0, 1, 2, 3, 4] 1 (fun h bs => (h 0 = .arr 0 1 0 n0 n0 n0 ∧ h 1 = lPArcI by_ ∧ h 2 = .int .i64 from_ ∧ h 3 = .int .i64 to_ ∧ h 4 = .int .i64 s_) ∧ bs = [.cells true n0 (l0.map (T.int .i64))]) ?_ ?_
 ·skip
  repeat apply TW.seq
  apply TW.block
  repeat apply TW.seq
  refine TW.loopT [0, 1, 2, 3, 4, 11] (fun m h bs => ∃ (amount2 : Int) (at_ : Int), sflow_pushI_b_L0 k by_ from_ m amount2 at_ = some s_ ∧ (h 0 = .arr 0 1 0 n0 n0 n0 ∧ h 1 = lPArcI by_ ∧ h 2 = .int .i64 from_ ∧ h 3 = .int .i64 to_ ∧ h 4 = .int .i64 amount2 ∧ h 11 = .int .i64 at_) ∧ bs = [.cells true n0 (l0.map (T.int .i64))]) ?_ k _ _ ?_
  rotate_left
  ·exact ⟨amount, to_, H1, kq hh, rfl⟩
  clear hh h H1
  rintro m h bs ⟨amount2, at_, H1, hh, rfl⟩
  rcases m with _ | m
  ·rw [sflow_pushI_b_L0] at H1; cases H1
  rw [sflow_pushI_b_L0] at H1
  repeat apply TW.seq
  refine rk [0, 1, 2, 3, 4, 11, 17] [] hh ?_
  clear hh h
  intro h hh
  rcases isp H1 with ⟨c1, H1⟩ | ⟨c1, H1⟩
  rotate_left
  ·skip
   repeat apply TW.seq
   refine cf (f2 hh (decide_eq_false c1)) ?_
   refine xk ?_
   cases H1
   exact ce hh ⟨kq hh, rfl⟩
  repeat apply TW.seq
  refine ct (f2 hh (decide_eq_true c1)) ?_
  repeat apply TW.seq
  refine sk ?_
  repeat apply TW.seq
  apply TW.block
  obtain ⟨g2, H1⟩ := isg H1
  obtain ⟨g3, H1⟩ := isg H1
  repeat apply TW.seq
  refine rk [0, 1, 2, 3, 4, 11] [] (f3 hh (gx_some g2) (f3 (pArcI_some g3) (fc113_3 ax) (f2 (ti111 ax) (ti86 ax)))) ?_
  clear hh h
  intro h hh
  repeat apply TW.seq
  refine rk [0, 1, 2, 3, 4, 11] [] (f3 hh (gx_some g2) (f3 (pArcI_some g3) (fc113_1 ax) (f2 (ti111 ax) (ti86 ax)))) ?_
  clear hh h
  intro h hh
  exact rd m hh ⟨(min amount2 (((gx by_ at_).getD default).room)), (((gx by_ at_).getD default).frm), H1, kq hh, rfl⟩
 clear hh h
 rintro h bs ⟨hh, rfl⟩
 repeat apply TW.seq
 refine rk [0, 1, 2, 4, 12] [] hh ?_
 clear hh h
 intro h hh
 obtain ⟨s_2, H1, H⟩ := bsome H
 repeat apply TW.seq
 refine cu [4] 1 (fun h bs => (h 4 = .int .i64 s_) ∧ bs = [.cells true n0 (s_2.map (T.int .i64))]) ?_ ?_
 ·skip
  repeat apply TW.seq
  apply TW.block
  repeat apply TW.seq
  refine TW.loopT [0, 1, 2, 4, 12] (fun m h bs => ∃ (at_2 : Int) (l : List Int), sflow_pushI_b_L1 k n0 by_ from_ s_ m at_2 l = some s_2 ∧ (h 0 = .arr 0 1 0 n0 n0 n0 ∧ h 1 = lPArcI by_ ∧ h 2 = .int .i64 from_ ∧ h 4 = .int .i64 s_ ∧ h 12 = .int .i64 at_2) ∧ bs = [.cells true n0 (l.map (T.int .i64))]) ?_ k _ _ ?_
  rotate_left
  ·exact ⟨to_, l0, H1, kq hh, rfl⟩
  clear hh h H1
  rintro m h bs ⟨at_2, l, H1, hh, rfl⟩
  rcases m with _ | m
  ·rw [sflow_pushI_b_L1] at H1; cases H1
  rw [sflow_pushI_b_L1] at H1
  repeat apply TW.seq
  refine rk [0, 1, 2, 4, 12, 37] [] hh ?_
  clear hh h
  intro h hh
  rcases isp H1 with ⟨c4, H1⟩ | ⟨c4, H1⟩
  rotate_left
  ·skip
   repeat apply TW.seq
   refine cf (f2 hh (decide_eq_false c4)) ?_
   refine xk ?_
   cases H1
   exact ce hh ⟨kq hh, rfl⟩
  repeat apply TW.seq
  refine ct (f2 hh (decide_eq_true c4)) ?_
  repeat apply TW.seq
  refine sk ?_
  repeat apply TW.seq
  apply TW.block
  obtain ⟨g5, H1⟩ := isg H1
  repeat apply TW.seq
  refine rk [0, 1, 2, 4, 12, 13] [] (f3 hh (gx_some g5) (f2 (ti111 ax) (ti86 ax))) ?_
  clear hh h
  intro h hh
  obtain ⟨g6, H1⟩ := isg H1
  repeat apply TW.seq
  refine rk [0, 1, 2, 4, 12, 13, 52] [] (f3 hh (pArcI_some g6) (fc113_4 ax)) ?_
  clear hh h
  intro h hh
  rcases isb H1 with ⟨c7, H1⟩ | ⟨c7, H1⟩
  rotate_left
  ·skip
   repeat apply TW.seq
   refine cf (f2 hh c7) ?_
   obtain ⟨g10, H1⟩ := isg H1
   obtain ⟨g11, H1⟩ := isg H1
   repeat apply TW.seq
   refine rk [0, 1, 2, 4, 12] [] (f3 hh c7 (f3 (pArcI_some g6) (get_some g11) (f2 (fun f v => @spl_map _ _ f _ v g11) (fc113_0 ax)))) ?_
   clear hh h
   intro h hh
   repeat apply TW.seq
   refine rk [0, 1, 2, 4, 12] [] (f3 hh c7 (f3 (gx_some g5) (pArcI_some g6) (f3 (fc113_1 ax) (ti111 ax) (ti86 ax)))) ?_
   clear hh h
   intro h hh
   exact rd m hh ⟨(((gx by_ at_2).getD default).frm), (l.set (((gx by_ at_2).getD default).link).toNat (IntKind.i64.wrap ((l.getD (((gx by_ at_2).getD default).link).toNat default) + s_))), H1, kq hh, rfl⟩
  repeat apply TW.seq
  refine ct (f2 hh c7) ?_
  obtain ⟨g8, H1⟩ := isg H1
  obtain ⟨g9, H1⟩ := isg H1
  repeat apply TW.seq
  refine rk [0, 1, 2, 4, 12] [] (f3 hh c7 (f3 (pArcI_some g6) (get_some g9) (f2 (fun f v => @spl_map _ _ f _ v g9) (fc113_0 ax)))) ?_
  clear hh h
  intro h hh
  repeat apply TW.seq
  refine rk [0, 1, 2, 4, 12] [] (f3 hh c7 (f3 (gx_some g5) (pArcI_some g6) (f3 (fc113_1 ax) (ti111 ax) (ti86 ax)))) ?_
  clear hh h
  intro h hh
  exact rd m hh ⟨(((gx by_ at_2).getD default).frm), (l.set (((gx by_ at_2).getD default).link).toNat (IntKind.i64.wrap ((l.getD (((gx by_ at_2).getD default).link).toNat default) - s_))), H1, kq hh, rfl⟩
 clear hh h
 rintro h bs ⟨hh, rfl⟩
 repeat apply TW.seq
 refine rk [10] [] hh ?_
 clear hh h
 intro h hh
 cases H
 exact rtB hh
def sflow_Cheap_L0 (k : Nat) (n : Net) (f_ : Failure) (prices : List Int) (from_ : Int) (to_ : Int) : Nat → Int → (List Int) → Option ((List Int × List Int × Int) ⊕ (List Int))
 | 0, _, _ => none
 | m + 1, left, l => (if 0 < left then ((sflow_arcsI_b k n.links.length n f_ prices l).bind fun rb => ((sflow_distances_b k n rb from_).bind fun rb2 => (if (0 : Int) ≤ to_ ∧ to_ < (rb2.2.2 : Int) then (if to_.toNat < rb2.2.1.length then (if 1125899906842624 ≤ (rb2.2.1.getD to_.toNat default) then some (.inl ([], [], 19)) else ((sflow_pushI_b k n.links.length rb2.1 from_ to_ left l).bind fun rb3 => sflow_Cheap_L0 k n f_ prices from_ to_ m (IntKind.i64.wrap (left - rb3.1)) rb3.2)) else none) else none))) else some (.inr l))
def sflow_Cheap_L1 (k : Nat) (rb5 : List (Option ArcI) × List Int × Nat) (rMin : Int) : Nat → Int → (List Int) → Option (List Int)
 | 0, _, _ => none
 | m + 1, i, l2 => (if i < (rb5.2.2 : Int) then (if (0 : Int) ≤ i ∧ i < (rb5.2.2 : Int) then (if i.toNat < l2.length then sflow_Cheap_L1 k rb5 rMin m (IntKind.i64.wrap (i + 1)) (l2.set i.toNat (IntKind.i64.wrap ((l2.getD i.toNat default) - rMin))) else none) else none) else some l2)
def sflow_Cheap (k : Nat) (n : Net) (f_ : Failure) (prices : List Int) (from_ : Int) (to_ : Int) (amount : Int) : Option (List Int × List Int × Int) := ((((sflow_isNode k n from_).bind fun risNode => (if risNode = true then ((sflow_isNode k n to_).bind fun risNode2 => (if risNode2 = true then (if from_ = to_ then some true else ((sflow_bounded k prices (n.links.length : Int) 1048576).bind fun rbounded => (if rbounded = true then (if amount < 0 then some true else some (decide (4294967296 < amount))) else some true))) else some true)) else some true)) : Option Bool).bind fun s_ => (if s_ = true then some ([], [], 1) else (if n.links.length * 9 ≤ 1000000000 then ((sflow_Cheap_L0 k n f_ prices from_ to_ k amount (List.replicate n.links.length 0) : Option ((List Int × List Int × Int) ⊕ (List Int))).bind fun o => Sum.elim (fun r => some r) (fun s_2 => ((sflow_arcsI_b k n.links.length n f_ prices s_2).bind fun rb4 => ((sflow_distances_b k n rb4 (-1)).bind fun rb5 => (if rb5.2.1.length = rb5.2.2 then ((sslices_Min k rb5.2.1).bind fun rMin => ((sflow_Cheap_L1 k rb5 rMin k 0 rb5.2.1 : Option (List Int)).bind fun s_3 => (if s_2.length = n.links.length then (if s_3.length = rb5.2.2 then some (s_2, s_3, 0) else none) else none))) else none)))) o) else none)))
set_option maxHeartbeats 8000000 in
theorem sflow_Cheap_ok (ax : Axs) (hx : Plain ax) (k : Nat) (n : Net) (f_ : Failure) (prices : List Int) (from_ : Int) (to_ : Int) (amount : Int) (v : List Int × List Int × Int) (H : sflow_Cheap k n f_ prices from_ to_ amount = some v) : Pure Try.prog (EE ax) [] 29 [eNet n, eFail f_, ints prices, .int .i64 from_, .int .i64 to_, .int .i64 amount] (tupT [ints v.1, ints v.2.1, .int .i64 v.2.2]) := by
 rw [sflow_Cheap] at H
 refine enN [.tmp 12, .tmp 13, .tmp 14] 114 [0, 1, 2, 3, 4, 5] (hx.no _ (by decide)) (fn29 ax) ?_
 intro h hh
 repeat apply TW.seq
 refine rk [3, 4, 5, 6, 7, 8] [] hh ?_
 clear hh h
 intro h hh
 refine zk 6 0 3 true [lNodes n.nodes, lLinks n.links, lEdges n.edges] [3, 4, 5, 6, 7, 8] hh ?_
 clear hh h
 intro h hh
 refine zk 7 1 2 true [ints f_.links, .int .i64 f_.node] [3, 4, 5, 6, 7, 8] hh ?_
 clear hh h
 intro h hh
 refine zk 8 2 1 true [ints prices] [3, 4, 5, 6, 7, 8] hh ?_
 clear hh h
 intro h hh
 obtain ⟨s_, H1, H⟩ := bsome H
 repeat apply TW.seq
 refine cu [3, 4, 5, 6, 7, 8, 54] 3 (fun h bs => (h 3 = .int .i64 from_ ∧ h 4 = .int .i64 to_ ∧ h 5 = .int .i64 amount ∧ h 6 = .cp [lNodes n.nodes, lLinks n.links, lEdges n.edges] ∧ h 7 = .cp [ints f_.links, .int .i64 f_.node] ∧ h 8 = .cp [ints prices] ∧ h 54 = .bool s_) ∧ bs = [.gone, .gone, .gone]) ?_ ?_
 ·skip
  obtain ⟨risNode, e1, H1⟩ := bsome H1
  rcases isb H1 with ⟨c2, H1⟩ | ⟨c2, H1⟩
  rotate_left
  ·skip
   repeat apply TW.seq
   refine rkc [3, 4, 5, 6, 7, 8, 54] [] [(.bool risNode, stL [.gone, .gone, .gone])] (f2 hh c2) ?_ ?_
   ·exact ⟨Call0.call (Pure.clr (sflow_isNode_ok ax hx k n from_ risNode e1 ) (by first | rfl | simp only [c2])), trivial⟩
   clear hh h
   intro h hh
   cases H1
   exact ce hh ⟨kq hh, rfl⟩
  obtain ⟨risNode2, e3, H1⟩ := bsome H1
  rcases isb H1 with ⟨c4, H1⟩ | ⟨c4, H1⟩
  rotate_left
  ·skip
   repeat apply TW.seq
   refine rkc [3, 4, 5, 6, 7, 8, 54] [] [(.bool risNode, stL [.gone, .gone, .gone]), (.bool risNode2, stL [.gone, .gone, .gone])] (f3 hh c2 c4) ?_ ?_
   ·exact ⟨Call0.call (Pure.clr (sflow_isNode_ok ax hx k n from_ risNode e1 ) (by first | rfl | simp only [c2, c4])), Call0.call (Pure.clr (sflow_isNode_ok ax hx k n to_ risNode2 e3 ) (by first | rfl | simp only [c2, c4])), trivial⟩
   clear hh h
   intro h hh
   cases H1
   exact ce hh ⟨kq hh, rfl⟩
  rcases isp H1 with ⟨c5, H1⟩ | ⟨c5, H1⟩
  rotate_left
  ·skip
   obtain ⟨rbounded, e6, H1⟩ := bsome H1
   rcases isb H1 with ⟨c7, H1⟩ | ⟨c7, H1⟩
   rotate_left
   ·skip
    repeat apply TW.seq
    refine rkc [3, 4, 5, 6, 7, 8, 54] [] [(.bool risNode, stL [.gone, .gone, .gone]), (.bool risNode2, stL [.gone, .gone, .gone]), (.bool rbounded, stL [.gone, .gone, .gone])] (f3 hh c2 (f3 c4 (decide_eq_false c5) (f2 c7 (fc26_1 ax)))) ?_ ?_
    ·exact ⟨Call0.call (Pure.clr (sflow_isNode_ok ax hx k n from_ risNode e1 ) (by first | rfl | simp only [c2, c4, c7])), Call0.call (Pure.clr (sflow_isNode_ok ax hx k n to_ risNode2 e3 ) (by first | rfl | simp only [c2, c4, c7])), Call0.call (Pure.clr (sflow_bounded_ok ax hx k prices (n.links.length : Int) 1048576 rbounded e6 ) (by first | rfl | simp only [c2, c4, c7])), trivial⟩
    clear hh h
    intro h hh
    cases H1
    exact ce hh ⟨kq hh, rfl⟩
   rcases isp H1 with ⟨c8, H1⟩ | ⟨c8, H1⟩
   rotate_left
   ·skip
    repeat apply TW.seq
    refine rkc [3, 4, 5, 6, 7, 8, 54] [] [(.bool risNode, stL [.gone, .gone, .gone]), (.bool risNode2, stL [.gone, .gone, .gone]), (.bool rbounded, stL [.gone, .gone, .gone])] (f3 hh c2 (f3 c4 (decide_eq_false c5) (f3 c7 (decide_eq_false c8) (fc26_1 ax)))) ?_ ?_
    ·exact ⟨Call0.call (Pure.clr (sflow_isNode_ok ax hx k n from_ risNode e1 ) (by first | rfl | simp only [c2, c4, c7])), Call0.call (Pure.clr (sflow_isNode_ok ax hx k n to_ risNode2 e3 ) (by first | rfl | simp only [c2, c4, c7])), Call0.call (Pure.clr (sflow_bounded_ok ax hx k prices (n.links.length : Int) 1048576 rbounded e6 ) (by first | rfl | simp only [c2, c4, c7])), trivial⟩
    clear hh h
    intro h hh
    cases H1
    exact ce hh ⟨kq hh, rfl⟩
   repeat apply TW.seq
   refine rkc [3, 4, 5, 6, 7, 8, 54] [] [(.bool risNode, stL [.gone, .gone, .gone]), (.bool risNode2, stL [.gone, .gone, .gone]), (.bool rbounded, stL [.gone, .gone, .gone])] (f3 hh c2 (f3 c4 (decide_eq_false c5) (f3 c7 (decide_eq_true c8) (fc26_1 ax)))) ?_ ?_
   ·exact ⟨Call0.call (Pure.clr (sflow_isNode_ok ax hx k n from_ risNode e1 ) (by first | rfl | simp only [c2, c4, c7])), Call0.call (Pure.clr (sflow_isNode_ok ax hx k n to_ risNode2 e3 ) (by first | rfl | simp only [c2, c4, c7])), Call0.call (Pure.clr (sflow_bounded_ok ax hx k prices (n.links.length : Int) 1048576 rbounded e6 ) (by first | rfl | simp only [c2, c4, c7])), trivial⟩
   clear hh h
   intro h hh
   cases H1
   exact ce hh ⟨kq hh, rfl⟩
  repeat apply TW.seq
  refine rkc [3, 4, 5, 6, 7, 8, 54] [] [(.bool risNode, stL [.gone, .gone, .gone]), (.bool risNode2, stL [.gone, .gone, .gone])] (f3 hh c2 (f2 c4 (decide_eq_true c5))) ?_ ?_
  ·exact ⟨Call0.call (Pure.clr (sflow_isNode_ok ax hx k n from_ risNode e1 ) (by first | rfl | simp only [c2, c4])), Call0.call (Pure.clr (sflow_isNode_ok ax hx k n to_ risNode2 e3 ) (by first | rfl | simp only [c2, c4])), trivial⟩
  clear hh h
  intro h hh
  cases H1
  exact ce hh ⟨kq hh, rfl⟩
 clear hh h
 rintro h bs ⟨hh, rfl⟩
 rcases isb H with ⟨c9, H⟩ | ⟨c9, H⟩
 rotate_left
 ·skip
  repeat apply TW.seq
  refine cf (f2 hh c9) ?_
  repeat apply TW.seq
  refine sk ?_
  repeat apply TW.seq
  refine rk [3, 4, 5, 6, 7, 15] [] (f2 hh c9) ?_
  clear hh h
  intro h hh
  obtain ⟨g10, H⟩ := isg H
  repeat apply TW.seq
  refine rk [3, 4, 5, 6, 7, 15, 16] [] (f3 hh c9 (fc26_1 ax)) ?_
  clear hh h
  intro h hh
  repeat apply TW.seq
  refine rk [3, 4, 6, 7, 15, 16, 17] [] (f2 hh c9) ?_
  clear hh h
  intro h hh
  obtain ⟨o, H1, H⟩ := bsome H
  repeat apply TW.seq
  refine cu [6, 7, 15, 16] 4 (fun h bs => ∃ s_2 : List Int, o = .inr s_2 ∧ (h 6 = .cp [lNodes n.nodes, lLinks n.links, lEdges n.edges] ∧ h 7 = .cp [ints f_.links, .int .i64 f_.node] ∧ h 15 = .fn 56 [] [.cp [ints prices]] ∧ h 16 = .arr 3 1 0 n.links.length n.links.length n.links.length) ∧ bs = [.gone, .gone, .gone, .cells true n.links.length (s_2.map (T.int .i64))]) ?_ ?_
  ·skip
   repeat apply TW.seq
   apply TW.block
   repeat apply TW.seq
   refine TW.loopT [3, 4, 6, 7, 15, 16, 17] (fun m h bs => ∃ (left : Int) (l : List Int), sflow_Cheap_L0 k n f_ prices from_ to_ m left l = some o ∧ (h 3 = .int .i64 from_ ∧ h 4 = .int .i64 to_ ∧ h 6 = .cp [lNodes n.nodes, lLinks n.links, lEdges n.edges] ∧ h 7 = .cp [ints f_.links, .int .i64 f_.node] ∧ h 15 = .fn 56 [] [.cp [ints prices]] ∧ h 16 = .arr 3 1 0 n.links.length n.links.length n.links.length ∧ h 17 = .int .i64 left) ∧ bs = [.gone, .gone, .gone, .cells true n.links.length (l.map (T.int .i64))]) ?_ k _ _ ?_
   rotate_left
   ·exact ⟨amount, (List.replicate n.links.length 0), H1, kq hh, rfl⟩
   clear hh h H1
   rintro m h bs ⟨left, l, H1, hh, rfl⟩
   rcases m with _ | m
   ·rw [sflow_Cheap_L0] at H1; cases H1
   rw [sflow_Cheap_L0] at H1
   repeat apply TW.seq
   refine rk [3, 4, 6, 7, 15, 16, 17, 62] [] (f2 hh c9) ?_
   clear hh h
   intro h hh
   rcases isp H1 with ⟨c11, H1⟩ | ⟨c11, H1⟩
   rotate_left
   ·skip
    repeat apply TW.seq
    refine cf (f2 hh (decide_eq_false c11)) ?_
    refine xk ?_
    cases H1
    exact ce hh ⟨_, rfl, kq hh, rfl⟩
   repeat apply TW.seq
   refine ct (f2 hh (decide_eq_true c11)) ?_
   repeat apply TW.seq
   refine sk ?_
   repeat apply TW.seq
   apply TW.block
   obtain ⟨rb, e12, H1⟩ := bsome H1
   obtain ⟨rb2, e13, H1⟩ := bsome H1
   repeat apply TW.seq
   refine dc 5 [6] [3, 4, 6, 7, 15, 16, 17, 18, 19] [] [] [(lArcI rb, stL [.gone, .gone, .gone, .cells true n.links.length (l.map (T.int .i64))]), (.tup [.arr 5 1 0 rb2.2.2 rb2.2.2 rb2.2.2, lPArcI rb2.1], stL [.gone, .gone, .gone, .cells true n.links.length (l.map (T.int .i64)), .gone, .cells false rb2.2.2 (rb2.2.1.map (T.int .i64))])] (f2 hh c9) trivial ?_ ?_
   ·exact ⟨ca [3] (sflow_arcsI_b_ok ax hx k n.links.length n f_ prices l rb e12), car [4, 5] (sflow_distances_b_ok ax hx k n rb from_ rb2 e13), trivial⟩
   clear hh h
   intro h hh
   obtain ⟨g14, H1⟩ := isg H1
   obtain ⟨g15, H1⟩ := isg H1
   repeat apply TW.seq
   refine rk [3, 4, 6, 7, 15, 16, 17, 19, 78] [] (f3 hh c9 (get_some g15)) ?_
   clear hh h
   intro h hh
   rcases isp H1 with ⟨c16, H1⟩ | ⟨c16, H1⟩
   rotate_left
   ·skip
    repeat apply TW.seq
    refine cf (f2 hh (decide_eq_false c16)) ?_
    repeat apply TW.seq
    refine sk ?_
    obtain ⟨rb3, e17, H1⟩ := bsome H1
    repeat apply TW.seq
    refine rkc [3, 4, 6, 7, 15, 16, 17] [] [(.int .i64 rb3.1, stL [.gone, .gone, .gone, .cells true n.links.length (rb3.2.map (T.int .i64)), .gone, .cells false rb2.2.2 (rb2.2.1.map (T.int .i64))])] (f2 hh c9) ?_ ?_
    ·exact ⟨ca [3] (sflow_pushI_b_ok ax hx k n.links.length rb2.1 from_ to_ left l rb3 e17), trivial⟩
    clear hh h
    intro h hh
    exact rd m hh ⟨(IntKind.i64.wrap (left - rb3.1)), rb3.2, H1, kq hh, rfl⟩
   repeat apply TW.seq
   refine ct (f2 hh (decide_eq_true c16)) ?_
   repeat apply TW.seq
   refine rk [12, 13, 14] [] (f2 hh c9) ?_
   clear hh h
   intro h hh
   refine nk 12 1 [12, 13, 14] hh ?_
   clear hh h
   intro h hh
   refine nk 13 1 [12, 13, 14] hh ?_
   clear hh h
   intro h hh
   cases H1
   obtain rfl := sinl H
   exact rt hh
  clear hh h
  rintro h bs ⟨s_2, rfl, hh, rfl⟩
  replace H := sinr H
  obtain ⟨rb4, e18, H⟩ := bsome H
  obtain ⟨rb5, e19, H⟩ := bsome H
  repeat apply TW.seq
  refine dc 5 [6] [16, 20] [] [] [(lArcI rb4, stL [.gone, .gone, .gone, .cells true n.links.length (s_2.map (T.int .i64))]), (.tup [.arr 5 1 0 rb5.2.2 rb5.2.2 rb5.2.2, lPArcI rb5.1], stL [.gone, .gone, .gone, .cells true n.links.length (s_2.map (T.int .i64)), .gone, .cells false rb5.2.2 (rb5.2.1.map (T.int .i64))])] (f2 hh c9) trivial ?_ ?_
  ·exact ⟨ca [3] (sflow_arcsI_b_ok ax hx k n.links.length n f_ prices s_2 rb4 e18), car [4, 5] (sflow_distances_b_ok ax hx k n rb4 (-1) rb5 e19), trivial⟩
  clear hh h
  intro h hh
  obtain ⟨g20, H⟩ := isg H
  obtain ⟨rMin, e21, H⟩ := bsome H
  repeat apply TW.seq
  refine rkc [16, 20, 22] [] [(.int .i64 rMin, stL [.gone, .gone, .gone, .cells true n.links.length (s_2.map (T.int .i64)), .gone, .cells false rb5.2.2 (rb5.2.1.map (T.int .i64))])] (f2 hh c9) ?_ ?_
  ·exact ⟨(by have q := Call0.call (Pure.lend (S := stL [.gone, .gone, .gone, .cells true n.links.length (s_2.map (T.int .i64)), .gone, .cells false rb5.2.2 (rb5.2.1.map (T.int .i64))]) (args := [.arr 5 1 0 rb5.2.2 rb5.2.2 rb5.2.2]) (sslices_Min_ok ax hx k rb5.2.1 rMin e21 ) (And.intro (lend_map (fun _ => rfl) (by rfl) g20) (trivial)) rfl); (try simp only [c9] at q); exact q), trivial⟩
  clear hh h
  intro h hh
  repeat apply TW.seq
  refine rk [16, 20, 22, 100, 101] [] (f2 hh c9) ?_
  clear hh h
  intro h hh
  obtain ⟨s_3, H1, H⟩ := bsome H
  repeat apply TW.seq
  refine cu [16, 20] 6 (fun h bs => (h 16 = .arr 3 1 0 n.links.length n.links.length n.links.length ∧ h 20 = .arr 5 1 0 rb5.2.2 rb5.2.2 rb5.2.2) ∧ bs = [.gone, .gone, .gone, .cells true n.links.length (s_2.map (T.int .i64)), .gone, .cells false rb5.2.2 (s_3.map (T.int .i64))]) ?_ ?_
  ·skip
   repeat apply TW.seq
   apply TW.block
   repeat apply TW.seq
   refine TW.loopT [16, 20, 22, 100, 101] (fun m h bs => ∃ (i : Int) (l2 : List Int), sflow_Cheap_L1 k rb5 rMin m i l2 = some s_3 ∧ (h 16 = .arr 3 1 0 n.links.length n.links.length n.links.length ∧ h 20 = .arr 5 1 0 rb5.2.2 rb5.2.2 rb5.2.2 ∧ h 22 = .int .i64 rMin ∧ h 100 = .int .i64 (rb5.2.2 : Int) ∧ h 101 = .int .i64 i) ∧ bs = [.gone, .gone, .gone, .cells true n.links.length (s_2.map (T.int .i64)), .gone, .cells false rb5.2.2 (l2.map (T.int .i64))]) ?_ k _ _ ?_
   rotate_left
   ·exact ⟨0, rb5.2.1, H1, kq hh, rfl⟩
   clear hh h H1
   rintro m h bs ⟨i, l2, H1, hh, rfl⟩
   rcases m with _ | m
   ·rw [sflow_Cheap_L1] at H1; cases H1
   rw [sflow_Cheap_L1] at H1
   repeat apply TW.seq
   refine rk [16, 20, 22, 100, 101, 102] [] (f2 hh c9) ?_
   clear hh h
   intro h hh
   rcases isp H1 with ⟨c22, H1⟩ | ⟨c22, H1⟩
   rotate_left
   ·skip
    repeat apply TW.seq
    refine cf (f2 hh (decide_eq_false c22)) ?_
    refine xk ?_
    cases H1
    exact ce hh ⟨kq hh, rfl⟩
   repeat apply TW.seq
   refine ct (f2 hh (decide_eq_true c22)) ?_
   repeat apply TW.seq
   refine sk ?_
   repeat apply TW.seq
   apply TW.block
   repeat apply TW.seq
   refine rk [16, 20, 22, 23, 100, 101] [] (f2 hh c9) ?_
   clear hh h
   intro h hh
   obtain ⟨g23, H1⟩ := isg H1
   obtain ⟨g24, H1⟩ := isg H1
   repeat apply TW.seq
   refine rk [16, 20, 22, 100, 101] [] (f3 hh c9 (f2 (get_some g24) (fun f v => @spl_map _ _ f _ v g24))) ?_
   clear hh h
   intro h hh
   repeat apply TW.seq
   refine rk [16, 20, 22, 100, 101] [] (f2 hh c9) ?_
   clear hh h
   intro h hh
   exact rd m hh ⟨(IntKind.i64.wrap (i + 1)), (l2.set i.toNat (IntKind.i64.wrap ((l2.getD i.toNat default) - rMin))), H1, kq hh, rfl⟩
  clear hh h
  rintro h bs ⟨hh, rfl⟩
  repeat apply TW.seq
  refine rk [12, 13, 14] [] (f2 hh c9) ?_
  clear hh h
  intro h hh
  obtain ⟨g25, H⟩ := isg H
  obtain ⟨g26, H⟩ := isg H
  refine TW.freeze 12 (b := 3) (e := 1) (off := 0) (len := n.links.length) (cap := n.links.length) (M := n.links.length) (s_2.map (T.int .i64)) (kq hh) (by rfl) (by omega) (by omega) (by rw [List.drop_zero, Nat.mul_one, cells_map (fun _ => rfl), List.take_of_length_le (by rw [List.length_map]; omega)]) (fun t ht => by obtain ⟨x, _, rfl⟩ := List.mem_map.1 ht; first | rfl | (rw [List.length_map]; rfl)) (by rw [List.length_map]; exact g25) (by omega) ?_
  rw [st_set _ _ _ (by simp only [lzA] <;> omega)]
  simp only [scA]
  refine gk [12, 13, 14] hh ?_
  clear hh h
  intro h hh
  refine TW.freeze 13 (b := 5) (e := 1) (off := 0) (len := rb5.2.2) (cap := rb5.2.2) (M := rb5.2.2) (s_3.map (T.int .i64)) (kq hh) (by rfl) (by omega) (by omega) (by rw [List.drop_zero, Nat.mul_one, cells_map (fun _ => rfl), List.take_of_length_le (by rw [List.length_map]; omega)]) (fun t ht => by obtain ⟨x, _, rfl⟩ := List.mem_map.1 ht; first | rfl | (rw [List.length_map]; rfl)) (by rw [List.length_map]; exact g26) (by omega) ?_
  rw [st_set _ _ _ (by simp only [lzA] <;> omega)]
  simp only [scA]
  refine gk [12, 13, 14] hh ?_
  clear hh h
  intro h hh
  cases H
  exact rt hh
 repeat apply TW.seq
 refine ct (f2 hh c9) ?_
 repeat apply TW.seq
 refine rk [12, 13, 14] [] (f2 hh c9) ?_
 clear hh h
 intro h hh
 refine nk 12 1 [12, 13, 14] hh ?_
 clear hh h
 intro h hh
 refine nk 13 1 [12, 13, 14] hh ?_
 clear hh h
 intro h hh
 cases H
 exact rt hh
end Go.Proofs.Ytfalnphlgfoflaa