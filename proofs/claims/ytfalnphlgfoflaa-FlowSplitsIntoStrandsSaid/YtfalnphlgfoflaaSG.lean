/- Functions as plain functions, and that the code computes them. -/
import Derived.Test.YtfalnphlgfoflaaSB
import Derived.Test.YtfalnphlgfoflaaSCl
import Derived.Test.YtfalnphlgfoflaaRf
namespace Go.Proofs.Ytfalnphlgfoflaa
open Go Go.RowKit
set_option linter.unusedSimpArgs false
set_option linter.unusedVariables false
set_option linter.unusedSectionVars false
set_option maxRecDepth 100000
def sgraph_Out_1 (k : Nat) (l : Link) (fv : Int) : Option Bool := some (decide (l.frm = fv))
set_option maxHeartbeats 8000000 in
theorem sgraph_Out_1_ok (ax : Axs) (hx : Plain ax) (k : Nat) (l : Link) (fv : Int) (v : Bool) (H : sgraph_Out_1 k l fv = some v) : Pure Try.prog (EE ax) [] 70 [eLink l, .cp [.int .i64 fv]] (.bool v) := by
 rw [sgraph_Out_1] at H
 refine en (ha := rfl) [.tmp 3] 8 [0, 1] (hx.no _ (by decide)) (fn70 ax) ?_
 intro h hh
 repeat apply TW.seq
 refine rk [1, 2] [] hh ?_
 clear hh h
 intro h hh
 repeat apply TW.seq
 refine rk [3] [] hh ?_
 clear hh h
 intro h hh
 cases H
 exact rt hh
def sgraph_links_L0 (k : Nat) (n : Net) (is_ : Link → Option Bool) : Nat → Int → (List Int) → Nat → Option (List Int × Nat)
 | 0, _, _, _ => none
 | m + 1, i, l, n2 => (if i < (n.links.length : Int) then (if (0 : Int) ≤ i ∧ i < (n.links.length : Int) then ((is_ (gx n.links i)).bind fun r => (if r = true then (if (n2 + 1) * 9 ≤ 1000000000 then sgraph_links_L0 k n is_ m (IntKind.i64.wrap (i + 1)) (l ++ [i]) (n2 + 1) else none) else sgraph_links_L0 k n is_ m (IntKind.i64.wrap (i + 1)) l n2)) else none) else some (l, n2))
def sgraph_links (k : Nat) (n : Net) (is_ : Link → Option Bool) : Option (List Int) := ((sgraph_links_L0 k n is_ k 0 [] 0 : Option (List Int × Nat)).bind fun s_ => (if s_.1.length = s_.2 then some s_.1 else none))
set_option maxHeartbeats 8000000 in
theorem sgraph_links_ok (ax : Axs) (hx : Plain ax) (k : Nat) (n : Net) (is_ : Link → Option Bool) (v : List Int) (H : sgraph_links k n is_ = some v) (is__f : Nat) (is__c : List T) (is__i : T.idsL 0 is__c = true) (is__h : ∀ (y0 : Link) (w : Bool), is_ y0 = some w → Pure Try.prog (EE ax) [] is__f ([] ++ [eLink y0] ++ is__c) (.bool w)) : Pure Try.prog (EE ax) [] 69 [eNet n, .fn is__f [] is__c] (ints v) := by
 rw [sgraph_links] at H
 refine en (ha := by simp only [ids2B, ids2C, idsA, idsB, idsC, idsD, idsE, is__i, Bool.and_self]) [.tmp 4] 25 [0, 1] (hx.no _ (by decide)) (fn69 ax) ?_
 intro h hh
 repeat apply TW.seq
 refine rk [1, 2] [] hh ?_
 clear hh h
 intro h hh
 repeat apply TW.seq
 refine rk [1, 2, 5] [] hh ?_
 clear hh h
 intro h hh
 refine vk 5 1 [1, 2, 5] hh ?_
 clear hh h
 intro h hh
 repeat apply TW.seq
 refine rk [1, 5, 9, 10, 11] [] hh ?_
 clear hh h
 intro h hh
 obtain ⟨s_, H1, H⟩ := bsome H
 repeat apply TW.seq
 refine cu [5] 2 (fun h bs => (h 5 = .arr 1 1 0 s_.2 s_.2 s_.2) ∧ bs = [.cells true 3 [lNodes n.nodes, lLinks n.links, lEdges n.edges], .cells false s_.2 (s_.1.map (T.int .i64))]) ?_ ?_
 ·skip
  repeat apply TW.seq
  apply TW.block
  repeat apply TW.seq
  refine TW.loopT [1, 5, 9, 10, 11] (fun m h bs => ∃ (i : Int) (l : List Int) (n2 : Nat), sgraph_links_L0 k n is_ m i l n2 = some s_ ∧ (h 1 = .fn is__f [] is__c ∧ h 5 = .arr 1 1 0 n2 n2 n2 ∧ h 9 = lLinks n.links ∧ h 10 = .int .i64 (n.links.length : Int) ∧ h 11 = .int .i64 i) ∧ bs = [.cells true 3 [lNodes n.nodes, lLinks n.links, lEdges n.edges], .cells false n2 (l.map (T.int .i64))]) ?_ k _ _ ?_
  rotate_left
  ·exact ⟨0, [], 0, H1, kq hh, rfl⟩
  clear hh h H1
  rintro m h bs ⟨i, l, n2, H1, hh, rfl⟩
  rcases m with _ | m
  ·rw [sgraph_links_L0] at H1; cases H1
  rw [sgraph_links_L0] at H1
  repeat apply TW.seq
  refine rk [1, 5, 9, 10, 11, 12] [] hh ?_
  clear hh h
  intro h hh
  rcases isp H1 with ⟨c1, H1⟩ | ⟨c1, H1⟩
  rotate_left
  ·skip
   repeat apply TW.seq
   refine cf (f2 hh (decide_eq_false c1)) ?_
   refine xk ?_
   cases H1
   exact ce (f2 hh ((fun m => idsL_more (Nat.zero_le m) is__i))) ⟨kq hh, rfl⟩
  repeat apply TW.seq
  refine ct (f2 hh (decide_eq_true c1)) ?_
  repeat apply TW.seq
  refine sk ?_
  repeat apply TW.seq
  apply TW.block
  obtain ⟨g2, H1⟩ := isg H1
  repeat apply TW.seq
  refine rk [1, 5, 6, 7, 9, 10, 11] [] (f2 hh (gx_some g2)) ?_
  clear hh h
  intro h hh
  obtain ⟨r, e3, H1⟩ := bsome H1
  repeat apply TW.seq
  refine rkc [1, 5, 6, 9, 10, 11, 18] [] [(.bool r, stL [.cells true 3 [lNodes n.nodes, lLinks n.links, lEdges n.edges], .cells false n2 (l.map (T.int .i64)), .cells true 3 [.int .i64 ((gx n.links i).frm), .int .i64 ((gx n.links i).to), .int .i64 ((gx n.links i).cap)]])] hh ?_ ?_
  ·exact ⟨Call0.call ((is__h (gx n.links i) r e3).call _), trivial⟩
  clear hh h
  intro h hh
  rcases isb H1 with ⟨c4, H1⟩ | ⟨c4, H1⟩
  rotate_left
  ·skip
   repeat apply TW.seq
   refine cf (f2 hh c4) ?_
   repeat apply TW.seq
   refine sk ?_
   repeat apply TW.seq
   refine rk [1, 5, 9, 10, 11] [] (f2 hh c4) ?_
   clear hh h
   intro h hh
   exact rd m (f2 hh ((fun m => idsL_more (Nat.zero_le m) is__i))) ⟨(IntKind.i64.wrap (i + 1)), l, n2, H1, kq hh, rfl⟩
  repeat apply TW.seq
  refine ct (f2 hh c4) ?_
  obtain ⟨g5, H1⟩ := isg H1
  repeat apply TW.seq
  refine rg [] [] [.cells true 3 [lNodes n.nodes, lLinks n.links, lEdges n.edges], .cells false (n2 + 1) ((l ++ [i]).map (T.int .i64)), .cells true 3 [.int .i64 ((gx n.links i).frm), .int .i64 ((gx n.links i).to), .int .i64 ((gx n.links i).cap)]] (fun h => h 1 = .fn is__f [] is__c ∧ h 5 = .arr 1 1 0 (n2 + 1) (n2 + 1) (n2 + 1) ∧ h 9 = lLinks n.links ∧ h 10 = .int .i64 (n.links.length : Int) ∧ h 11 = .int .i64 i) (f2 hh c4) trivial ?_
  clear hh h
  intro h hh
  repeat apply TW.seq
  refine rk [1, 5, 9, 10, 11] [] (f2 hh c4) ?_
  clear hh h
  intro h hh
  exact rd m (f2 hh ((fun m => idsL_more (Nat.zero_le m) is__i))) ⟨(IntKind.i64.wrap (i + 1)), (l ++ [i]), (n2 + 1), H1, kq hh, rfl⟩
 clear hh h
 rintro h bs ⟨hh, rfl⟩
 repeat apply TW.seq
 refine rk [4] [] hh ?_
 clear hh h
 intro h hh
 obtain ⟨g6, H⟩ := isg H
 refine TW.freeze 4 (b := 1) (e := 1) (off := 0) (len := s_.2) (cap := s_.2) (M := s_.2) (s_.1.map (T.int .i64)) (kq hh) (by rfl) (by omega) (by omega) (by rw [List.drop_zero, Nat.mul_one, cells_map (fun _ => rfl), List.take_of_length_le (by rw [List.length_map]; omega)]) (fun t ht => by obtain ⟨x, _, rfl⟩ := List.mem_map.1 ht; first | rfl | (rw [List.length_map]; rfl)) (by rw [List.length_map]; exact g6) (by omega) ?_
 rw [st_set _ _ _ (by simp only [lzA] <;> omega)]
 simp only [scA]
 refine gk [4] hh ?_
 clear hh h
 intro h hh
 cases H
 exact rt hh
def sgraph_Out (k : Nat) (n : Net) (node : Int) : Option (List Int) := ((sgraph_links k n (fun y => sgraph_Out_1 k y node)).bind fun rlinks => some rlinks)
set_option maxHeartbeats 8000000 in
theorem sgraph_Out_ok (ax : Axs) (hx : Plain ax) (k : Nat) (n : Net) (node : Int) (v : List Int) (H : sgraph_Out k n node = some v) : Pure Try.prog (EE ax) [] 52 [eNet n, .int .i64 node] (ints v) := by
 rw [sgraph_Out] at H
 refine en [.tmp 4] 8 [0, 1] (hx.no _ (by decide)) (fn52 ax) ?_
 intro h hh
 repeat apply TW.seq
 refine rk [2, 3] [] hh ?_
 clear hh h
 intro h hh
 refine zk 3 1 1 true [.int .i64 node] [2, 3] hh ?_
 clear hh h
 intro h hh
 obtain ⟨rlinks, e1, H⟩ := bsome H
 repeat apply TW.seq
 refine rkc [4] [] [(ints rlinks, stL [.cells true 3 [lNodes n.nodes, lLinks n.links, lEdges n.edges], .gone])] hh ?_ ?_
 ·exact ⟨Call0.call ((sgraph_links_ok ax hx k n (fun y => sgraph_Out_1 k y node) rlinks e1 70 [.cp [.int .i64 node]] (by simp only [ids2B, ids2C, idsA, idsB, idsC, idsD, idsE, Bool.and_self]) (fun y w hw => by first | exact sgraph_Out_1_ok ax hx k y node w hw | exact (sgraph_Out_1_ok ax hx k y node w hw))).call _), trivial⟩
 clear hh h
 intro h hh
 cases H
 exact rt hh
def sflow_Split_3 (k : Nat) (x : Int) : Option Bool := some (decide (0 < x))
set_option maxHeartbeats 8000000 in
theorem sflow_Split_3_ok (ax : Axs) (hx : Plain ax) (k : Nat) (x : Int) (v : Bool) (H : sflow_Split_3 k x = some v) : Pure Try.prog (EE ax) [] 55 [.int .i64 x] (.bool v) := by
 rw [sflow_Split_3] at H
 refine en [.tmp 2] 5 [0] (hx.no _ (by decide)) (fn55 ax) ?_
 intro h hh
 repeat apply TW.seq
 refine rk [0] [] hh ?_
 clear hh h
 intro h hh
 repeat apply TW.seq
 refine rk [2] [] hh ?_
 clear hh h
 intro h hh
 cases H
 exact rt hh
def sflow_Split_1_b_L0 (k : Nat) (n1 : Nat) (l1 : List Int) (rOut : List Int) : Nat → Int → Option (Int ⊕ Unit)
 | 0, _ => none
 | m + 1, i => (if i < (rOut.length : Int) then (if (0 : Int) ≤ i ∧ i < (rOut.length : Int) then (if (0 : Int) ≤ (gx rOut i) ∧ (gx rOut i) < (n1 : Int) then (if (gx rOut i).toNat < l1.length then (if 0 < (l1.getD (gx rOut i).toNat default) then some (.inl (gx rOut i)) else sflow_Split_1_b_L0 k n1 l1 rOut m (IntKind.i64.wrap (i + 1))) else none) else none) else none) else some (.inr ()))
def sflow_Split_1_b (k : Nat) (n1 : Nat) (at_ : Int) (a : Net) (l1 : List Int) : Option Int := ((sgraph_Out k a at_).bind fun rOut => ((sflow_Split_1_b_L0 k n1 l1 rOut k 0 : Option (Int ⊕ Unit)).bind fun o => Sum.elim (fun r => some r) (fun s_ => some (-1)) o))
set_option maxHeartbeats 8000000 in
theorem sflow_Split_1_b_ok (ax : Axs) (hx : Plain ax) (k : Nat) (n1 : Nat) (at_ : Int) (a : Net) (l1 : List Int) (v : Int) (H : sflow_Split_1_b k n1 at_ a l1 = some v) : Call Try.prog (EE ax) [] 51 [.int .i64 at_, .cp [lNodes a.nodes, lLinks a.links, lEdges a.edges], .ptr 0 0 1] (stL [.cells true 1 [.arr 1 1 0 n1 n1 n1], .cells false n1 (l1.map (T.int .i64))]) (tupT [.int .i64 v]) (stL [.cells true 1 [.arr 1 1 0 n1 n1 n1], .cells false n1 (l1.map (T.int .i64))]) := by
 rw [sflow_Split_1_b] at H
 refine enB [.tmp 4] 22 [0, 1, 2] (hx.no _ (by decide)) (fn51 ax) ?_
 intro h hh
 repeat apply TW.seq
 refine rk [0, 1, 2] [] hh ?_
 clear hh h
 intro h hh
 obtain ⟨rOut, e1, H⟩ := bsome H
 repeat apply TW.seq
 refine rkc [2, 9, 10, 11] [] [(ints rOut, stL [.cells true 1 [.arr 1 1 0 n1 n1 n1], .cells false n1 (l1.map (T.int .i64))])] hh ?_ ?_
 ·exact ⟨Call0.call ((sgraph_Out_ok ax hx k a at_ rOut e1 ).call _), trivial⟩
 clear hh h
 intro h hh
 obtain ⟨o, H1, H⟩ := bsome H
 repeat apply TW.seq
 refine cu [] 2 (fun h bs => ∃ s_ : Unit, o = .inr s_ ∧ (True) ∧ bs = [.cells true 1 [.arr 1 1 0 n1 n1 n1], .cells false n1 (l1.map (T.int .i64))]) ?_ ?_
 ·skip
  repeat apply TW.seq
  apply TW.block
  repeat apply TW.seq
  refine TW.loopT [2, 9, 10, 11] (fun m h bs => ∃ (i : Int), sflow_Split_1_b_L0 k n1 l1 rOut m i = some o ∧ (h 2 = .ptr 0 0 1 ∧ h 9 = ints rOut ∧ h 10 = .int .i64 (rOut.length : Int) ∧ h 11 = .int .i64 i) ∧ bs = [.cells true 1 [.arr 1 1 0 n1 n1 n1], .cells false n1 (l1.map (T.int .i64))]) ?_ k _ _ ?_
  rotate_left
  ·exact ⟨0, H1, kq hh, rfl⟩
  clear hh h H1
  rintro m h bs ⟨i, H1, hh, rfl⟩
  rcases m with _ | m
  ·rw [sflow_Split_1_b_L0] at H1; cases H1
  rw [sflow_Split_1_b_L0] at H1
  repeat apply TW.seq
  refine rk [2, 9, 10, 11, 12] [] hh ?_
  clear hh h
  intro h hh
  rcases isp H1 with ⟨c2, H1⟩ | ⟨c2, H1⟩
  rotate_left
  ·skip
   repeat apply TW.seq
   refine cf (f2 hh (decide_eq_false c2)) ?_
   refine xk ?_
   cases H1
   exact ce hh ⟨_, rfl, kq hh, rfl⟩
  repeat apply TW.seq
  refine ct (f2 hh (decide_eq_true c2)) ?_
  repeat apply TW.seq
  refine sk ?_
  repeat apply TW.seq
  apply TW.block
  obtain ⟨g3, H1⟩ := isg H1
  repeat apply TW.seq
  refine rk [2, 6, 9, 10, 11] [] (f2 hh (gx_some g3)) ?_
  clear hh h
  intro h hh
  obtain ⟨g4, H1⟩ := isg H1
  obtain ⟨g5, H1⟩ := isg H1
  repeat apply TW.seq
  refine rk [2, 6, 9, 10, 11, 19] [] (f2 hh (get_some g5)) ?_
  clear hh h
  intro h hh
  rcases isp H1 with ⟨c6, H1⟩ | ⟨c6, H1⟩
  rotate_left
  ·skip
   repeat apply TW.seq
   refine cf (f2 hh (decide_eq_false c6)) ?_
   repeat apply TW.seq
   refine sk ?_
   repeat apply TW.seq
   refine rk [2, 9, 10, 11] [] hh ?_
   clear hh h
   intro h hh
   exact rd m hh ⟨(IntKind.i64.wrap (i + 1)), H1, kq hh, rfl⟩
  repeat apply TW.seq
  refine ct (f2 hh (decide_eq_true c6)) ?_
  repeat apply TW.seq
  refine rk [4] [] hh ?_
  clear hh h
  intro h hh
  cases H1
  obtain rfl := sinl H
  exact rtB hh
 clear hh h
 rintro h bs ⟨s_, rfl, hh, rfl⟩
 replace H := sinr H
 repeat apply TW.seq
 refine rk [4] [] hh ?_
 clear hh h
 intro h hh
 cases H
 exact rtB hh
def sflow_Split_2_b_L0 (k : Nat) (n2 : Nat) (links : List Int) (l2 : List Int) : Nat → Int → Int → Option Int
 | 0, _, _ => none
 | m + 1, amount2, i => (if i < (links.length : Int) then (if (0 : Int) ≤ i ∧ i < (links.length : Int) then (if (0 : Int) ≤ (gx links i) ∧ (gx links i) < (n2 : Int) then (if (gx links i).toNat < l2.length then sflow_Split_2_b_L0 k n2 links l2 m (min amount2 (l2.getD (gx links i).toNat default)) (IntKind.i64.wrap (i + 1)) else none) else none) else none) else some amount2)
def sflow_Split_2_b_L1 (k : Nat) (n2 : Nat) (links : List Int) (s_ : Int) : Nat → Int → (List Int) → Option (List Int)
 | 0, _, _ => none
 | m + 1, i2, l => (if i2 < (links.length : Int) then (if (0 : Int) ≤ i2 ∧ i2 < (links.length : Int) then (if (0 : Int) ≤ (gx links i2) ∧ (gx links i2) < (n2 : Int) then (if (gx links i2).toNat < l.length then sflow_Split_2_b_L1 k n2 links s_ m (IntKind.i64.wrap (i2 + 1)) (l.set (gx links i2).toNat (IntKind.i64.wrap ((l.getD (gx links i2).toNat default) - s_))) else none) else none) else none) else some l)
def sflow_Split_2_b (k : Nat) (n2 : Nat) (n3 : Nat) (links : List Int) (amount : Int) (l2 : List Int) (l3 : List Strand) : Option (Int × List Int × List Strand × Nat) := ((sflow_Split_2_b_L0 k n2 links l2 k amount 0 : Option Int).bind fun s_ => ((sflow_Split_2_b_L1 k n2 links s_ k 0 l2 : Option (List Int)).bind fun s_2 => (if (n3 + 1) * 33 ≤ 1000000000 then some (s_, s_2, l3 ++ [(⟨links, s_⟩ : Strand)], n3 + 1) else none)))
set_option maxHeartbeats 8000000 in
theorem sflow_Split_2_b_ok (ax : Axs) (hx : Plain ax) (k : Nat) (n2 : Nat) (n3 : Nat) (links : List Int) (amount : Int) (l2 : List Int) (l3 : List Strand) (v : Int × List Int × List Strand × Nat) (H : sflow_Split_2_b k n2 n3 links amount l2 l3 = some v) : Call Try.prog (EE ax) [] 53 [ints links, .int .i64 amount, .ptr 0 0 1, .ptr 1 0 1] (stL [.cells true 1 [.arr 2 1 0 n2 n2 n2], .cells true 1 [.arr 3 2 0 n3 n3 (n3 * 2)], .cells false n2 (l2.map (T.int .i64)), .cells false (n3 * 2) (vecC eStrand l3)]) (tupT [.int .i64 v.1]) (stL [.cells true 1 [.arr 2 1 0 n2 n2 n2], .cells true 1 [.arr 3 2 0 v.2.2.2 v.2.2.2 (v.2.2.2 * 2)], .cells false n2 (v.2.1.map (T.int .i64)), .cells false (v.2.2.2 * 2) (vecC eStrand v.2.2.1)]) := by
 rw [sflow_Split_2_b] at H
 refine enB [.tmp 6] 45 [0, 1, 2, 3] (hx.no _ (by decide)) (fn53 ax) ?_
 intro h hh
 repeat apply TW.seq
 refine rk [0, 1, 2, 3] [] hh ?_
 clear hh h
 intro h hh
 repeat apply TW.seq
 refine rk [0, 1, 2, 3, 11, 12, 13] [] hh ?_
 clear hh h
 intro h hh
 obtain ⟨s_, H1, H⟩ := bsome H
 repeat apply TW.seq
 refine cu [0, 1, 2, 3] 4 (fun h bs => (h 0 = ints links ∧ h 1 = .int .i64 s_ ∧ h 2 = .ptr 0 0 1 ∧ h 3 = .ptr 1 0 1) ∧ bs = [.cells true 1 [.arr 2 1 0 n2 n2 n2], .cells true 1 [.arr 3 2 0 n3 n3 (n3 * 2)], .cells false n2 (l2.map (T.int .i64)), .cells false (n3 * 2) (vecC eStrand l3)]) ?_ ?_
 ·skip
  repeat apply TW.seq
  apply TW.block
  repeat apply TW.seq
  refine TW.loopT [0, 1, 2, 3, 11, 12, 13] (fun m h bs => ∃ (amount2 : Int) (i : Int), sflow_Split_2_b_L0 k n2 links l2 m amount2 i = some s_ ∧ (h 0 = ints links ∧ h 1 = .int .i64 amount2 ∧ h 2 = .ptr 0 0 1 ∧ h 3 = .ptr 1 0 1 ∧ h 11 = ints links ∧ h 12 = .int .i64 (links.length : Int) ∧ h 13 = .int .i64 i) ∧ bs = [.cells true 1 [.arr 2 1 0 n2 n2 n2], .cells true 1 [.arr 3 2 0 n3 n3 (n3 * 2)], .cells false n2 (l2.map (T.int .i64)), .cells false (n3 * 2) (vecC eStrand l3)]) ?_ k _ _ ?_
  rotate_left
  ·exact ⟨amount, 0, H1, kq hh, rfl⟩
  clear hh h H1
  rintro m h bs ⟨amount2, i, H1, hh, rfl⟩
  rcases m with _ | m
  ·rw [sflow_Split_2_b_L0] at H1; cases H1
  rw [sflow_Split_2_b_L0] at H1
  repeat apply TW.seq
  refine rk [0, 1, 2, 3, 11, 12, 13, 14] [] hh ?_
  clear hh h
  intro h hh
  rcases isp H1 with ⟨c1, H1⟩ | ⟨c1, H1⟩
  rotate_left
  ·skip
   repeat apply TW.seq
   refine cf (f2 hh (decide_eq_false c1)) ?_
   refine xk ?_
   cases H1
   exact ce (f2 hh ((fun m => ids_vec (n := m) (f := eStrand) ids_cS))) ⟨kq hh, rfl⟩
  repeat apply TW.seq
  refine ct (f2 hh (decide_eq_true c1)) ?_
  repeat apply TW.seq
  refine sk ?_
  repeat apply TW.seq
  apply TW.block
  obtain ⟨g2, H1⟩ := isg H1
  repeat apply TW.seq
  refine rk [0, 1, 2, 3, 8, 11, 12, 13] [] (f2 hh (gx_some g2)) ?_
  clear hh h
  intro h hh
  obtain ⟨g3, H1⟩ := isg H1
  obtain ⟨g4, H1⟩ := isg H1
  repeat apply TW.seq
  refine rk [0, 1, 2, 3, 11, 12, 13] [] (f2 hh (get_some g4)) ?_
  clear hh h
  intro h hh
  repeat apply TW.seq
  refine rk [0, 1, 2, 3, 11, 12, 13] [] hh ?_
  clear hh h
  intro h hh
  exact rd m (f2 hh ((fun m => ids_vec (n := m) (f := eStrand) ids_cS))) ⟨(min amount2 (l2.getD (gx links i).toNat default)), (IntKind.i64.wrap (i + 1)), H1, kq hh, rfl⟩
 clear hh h
 rintro h bs ⟨hh, rfl⟩
 repeat apply TW.seq
 refine rk [0, 1, 2, 3, 24, 25, 26] [] hh ?_
 clear hh h
 intro h hh
 obtain ⟨s_2, H1, H⟩ := bsome H
 repeat apply TW.seq
 refine cu [0, 1, 3] 4 (fun h bs => (h 0 = ints links ∧ h 1 = .int .i64 s_ ∧ h 3 = .ptr 1 0 1) ∧ bs = [.cells true 1 [.arr 2 1 0 n2 n2 n2], .cells true 1 [.arr 3 2 0 n3 n3 (n3 * 2)], .cells false n2 (s_2.map (T.int .i64)), .cells false (n3 * 2) (vecC eStrand l3)]) ?_ ?_
 ·skip
  repeat apply TW.seq
  apply TW.block
  repeat apply TW.seq
  refine TW.loopT [0, 1, 2, 3, 24, 25, 26] (fun m h bs => ∃ (i2 : Int) (l : List Int), sflow_Split_2_b_L1 k n2 links s_ m i2 l = some s_2 ∧ (h 0 = ints links ∧ h 1 = .int .i64 s_ ∧ h 2 = .ptr 0 0 1 ∧ h 3 = .ptr 1 0 1 ∧ h 24 = ints links ∧ h 25 = .int .i64 (links.length : Int) ∧ h 26 = .int .i64 i2) ∧ bs = [.cells true 1 [.arr 2 1 0 n2 n2 n2], .cells true 1 [.arr 3 2 0 n3 n3 (n3 * 2)], .cells false n2 (l.map (T.int .i64)), .cells false (n3 * 2) (vecC eStrand l3)]) ?_ k _ _ ?_
  rotate_left
  ·exact ⟨0, l2, H1, kq hh, rfl⟩
  clear hh h H1
  rintro m h bs ⟨i2, l, H1, hh, rfl⟩
  rcases m with _ | m
  ·rw [sflow_Split_2_b_L1] at H1; cases H1
  rw [sflow_Split_2_b_L1] at H1
  repeat apply TW.seq
  refine rk [0, 1, 2, 3, 24, 25, 26, 27] [] hh ?_
  clear hh h
  intro h hh
  rcases isp H1 with ⟨c5, H1⟩ | ⟨c5, H1⟩
  rotate_left
  ·skip
   repeat apply TW.seq
   refine cf (f2 hh (decide_eq_false c5)) ?_
   refine xk ?_
   cases H1
   exact ce (f2 hh ((fun m => ids_vec (n := m) (f := eStrand) ids_cS))) ⟨kq hh, rfl⟩
  repeat apply TW.seq
  refine ct (f2 hh (decide_eq_true c5)) ?_
  repeat apply TW.seq
  refine sk ?_
  repeat apply TW.seq
  apply TW.block
  obtain ⟨g6, H1⟩ := isg H1
  repeat apply TW.seq
  refine rk [0, 1, 2, 3, 10, 24, 25, 26] [] (f2 hh (gx_some g6)) ?_
  clear hh h
  intro h hh
  obtain ⟨g7, H1⟩ := isg H1
  obtain ⟨g8, H1⟩ := isg H1
  repeat apply TW.seq
  refine rk [0, 1, 2, 3, 24, 25, 26] [] (f3 hh (get_some g8) (fun f v => @spl_map _ _ f _ v g8)) ?_
  clear hh h
  intro h hh
  repeat apply TW.seq
  refine rk [0, 1, 2, 3, 24, 25, 26] [] hh ?_
  clear hh h
  intro h hh
  exact rd m (f2 hh ((fun m => ids_vec (n := m) (f := eStrand) ids_cS))) ⟨(IntKind.i64.wrap (i2 + 1)), (l.set (gx links i2).toNat (IntKind.i64.wrap ((l.getD (gx links i2).toNat default) - s_))), H1, kq hh, rfl⟩
 clear hh h
 rintro h bs ⟨hh, rfl⟩
 obtain ⟨g9, H⟩ := isg H
 repeat apply TW.seq
 refine rg [] [] [.cells true 1 [.arr 2 1 0 n2 n2 n2], .cells true 1 [.arr 3 2 0 (n3 + 1) (n3 + 1) ((n3 + 1) * 2)], .cells false n2 (s_2.map (T.int .i64)), .cells false ((n3 + 1) * 2) (vecC eStrand (l3 ++ [(⟨links, s_⟩ : Strand)]))] (fun h => h 1 = .int .i64 s_) (f3 hh (bt41 ax) (f3 (el30 ax) (pl41_0 ax) (f2 (pl41_1 ax) (sr30 ax)))) trivial ?_
 clear hh h
 intro h hh
 repeat apply TW.seq
 refine rk [6] [] hh ?_
 clear hh h
 intro h hh
 cases H
 exact rtBs hh
def sflow_Split_L1 (k : Nat) (n : Net) (to_ : Int) (flow : List Int) (l : List Int) (l2 : List Strand) (n2 : Nat) : Nat → Int → Int → (List Int) → Nat → (List (Int × Int)) → Option ((List Strand) ⊕ (Int × List Int × List Strand × Nat))
 | 0, _, _, _, _, _ => none
 | m + 1, value2, at_, l3, n3, mp => ((sflow_Split_1_b k flow.length at_ n l).bind fun rb => (if (n3 + 1) * 9 ≤ 1000000000 then (if (0 : Int) ≤ rb ∧ rb < (n.links.length : Int) then (if (mget ((gx n.links rb).to) mp).isSome = true then (if (l3 ++ [rb]).length = n3 + 1 then (if (0 : Int) ≤ ((mget ((gx n.links rb).to) mp).getD 0) ∧ ((mget ((gx n.links rb).to) mp).getD 0) ≤ ((l3 ++ [rb]).length : Int) then ((sflow_Split_2_b k flow.length n2 ((l3 ++ [rb]).drop ((mget ((gx n.links rb).to) mp).getD 0).toNat) 4294967296 l l2).bind fun rb2 => some (.inr (value2, rb2.2.1, rb2.2.2.1, rb2.2.2.2))) else none) else none) else (((if ((gx n.links rb).to) = to_ then some (decide (0 < value2)) else some false) : Option Bool).bind fun s_3 => (if s_3 = true then (if (l3 ++ [rb]).length = n3 + 1 then ((sflow_Split_2_b k flow.length n2 (l3 ++ [rb]) value2 l l2).bind fun rb3 => some (.inr (IntKind.i64.wrap (value2 - rb3.1), rb3.2.1, rb3.2.2.1, rb3.2.2.2))) else none) else sflow_Split_L1 k n to_ flow l l2 n2 m value2 ((gx n.links rb).to) (l3 ++ [rb]) (n3 + 1) (mset ((gx n.links rb).to) ((n3 + 1) : Int) mp)))) else none) else none))
def sflow_Split_L0 (k : Nat) (n : Net) (from_ : Int) (to_ : Int) (flow : List Int) : Nat → Int → (List Int) → (List Strand) → Nat → Option (List Strand)
 | 0, _, _, _, _ => none
 | m + 1, value, l, l2, n2 => (((((if value = 0 then (if l.length = flow.length then ((sslices_IndexFunc k l (fun y => sflow_Split_3 k y)).bind fun rIndexFunc => (if rIndexFunc < 0 then (if l2.length = n2 then some (.inl l2) else none) else (if (0 : Int) ≤ rIndexFunc ∧ rIndexFunc < (n.links.length : Int) then some (.inr ((gx n.links rIndexFunc).frm)) else none))) else none) else some (.inr from_)) : Option ((List Strand) ⊕ Int)).bind fun o => Sum.elim (fun r => some (.inl r)) (fun s_2 => sflow_Split_L1 k n to_ flow l l2 n2 k value s_2 [] 0 (mset s_2 0 ([] : List (Int × Int)))) o) : Option ((List Strand) ⊕ (Int × List Int × List Strand × Nat))).bind fun o2 => Sum.elim (fun r => some r) (fun s_ => sflow_Split_L0 k n from_ to_ flow m s_.1 s_.2.1 s_.2.2.1 s_.2.2.2) o2)
def sflow_Split (k : Nat) (n : Net) (from_ : Int) (to_ : Int) (flow : List Int) : Option (List Strand) := (if flow.length * 9 ≤ 1000000000 then ((sflow_Check k n (⟨[], (-1)⟩ : Failure) from_ to_ flow).bind fun rCheck => sflow_Split_L0 k n from_ to_ flow k rCheck.1 flow [] 0) else none)
set_option maxHeartbeats 8000000 in
theorem sflow_Split_ok (ax : Axs) (hx : Plain ax) (k : Nat) (n : Net) (from_ : Int) (to_ : Int) (flow : List Int) (v : List Strand) (H : sflow_Split k n from_ to_ flow = some v) : Pure Try.prog (EE ax) [] 28 [eNet n, .int .i64 from_, .int .i64 to_, ints flow] (lStrands v) := by
 rw [sflow_Split] at H
 refine en [.tmp 8] 94 [0, 1, 2, 3] (hx.no _ (by decide)) (fn28 ax) ?_
 intro h hh
 repeat apply TW.seq
 refine rk [1, 2, 3, 4] [] hh ?_
 clear hh h
 intro h hh
 refine zk 4 0 3 true [lNodes n.nodes, lLinks n.links, lEdges n.edges] [1, 2, 3, 4] hh ?_
 clear hh h
 intro h hh
 repeat apply TW.seq
 apply TW.scope
 obtain ⟨g1, H⟩ := isg H
 repeat apply TW.seq
 refine rkc [1, 2, 3, 4, 9] [] [(.arr 1 1 0 flow.length flow.length flow.length, stL [.gone, .cells false flow.length (flow.map (T.int .i64))])] hh ?_ ?_
 ·exact ⟨(by have q := Call.fresh (sClone_new ax hx flow g1) (by simp only [ids2B, idsA, idsB, idsC, idsD, idsE, Bool.and_self]) (by simp only [ids2B, idsA, idsB, idsC, idsD, idsE, Bool.and_self]) [.gone]; exact q), trivial⟩
 clear hh h
 intro h hh
 repeat apply TW.seq
 refine rk [1, 2, 3, 4, 9, 10] [] hh ?_
 clear hh h
 intro h hh
 refine vz 3 0 2 ?_
 repeat apply TW.seq
 refine rk [1, 2, 3, 4, 9, 10, 11] [] hh ?_
 clear hh h
 intro h hh
 repeat apply TW.seq
 refine rk [1, 2, 3, 4, 9, 10, 11, 12] [] hh ?_
 clear hh h
 intro h hh
 obtain ⟨rCheck, e2, H⟩ := bsome H
 repeat apply TW.seq
 refine rkc [1, 2, 4, 9, 10, 11, 12, 13] [] [(.tup [.int .i64 rCheck.1, .bool rCheck.2], stL [.gone, .cells false flow.length (flow.map (T.int .i64)), .cells true 1 [.arr 1 1 0 flow.length flow.length flow.length], .cells true 1 [.arr 4 2 0 0 0 (0 * 2)], .cells false (0 * 2) (vecC eStrand [])])] (f3 hh (bt29 ax) (pl29_1 ax)) ?_ ?_
 ·exact ⟨Call0.call (na ((sflow_Check_ok ax hx k n (⟨[], (-1)⟩ : Failure) from_ to_ flow rCheck e2 ).call (stL [.gone, .cells false flow.length (flow.map (T.int .i64)), .cells true 1 [.arr 1 1 0 flow.length flow.length flow.length], .cells true 1 [.arr 4 2 0 0 0 (0 * 2)], .cells false (0 * 2) (vecC eStrand [])]))), trivial⟩
 clear hh h
 intro h hh
 repeat apply TW.seq
 refine lk ?_
 repeat apply TW.seq
 apply TW.block
 repeat apply TW.seq
 refine TW.loopT [1, 2, 4, 9, 10, 11, 12, 13] (fun m h bs => ∃ (value : Int) (l : List Int) (l2 : List Strand) (n2 : Nat), sflow_Split_L0 k n from_ to_ flow m value l l2 n2 = some v ∧ (h 1 = .int .i64 from_ ∧ h 2 = .int .i64 to_ ∧ h 4 = .cp [lNodes n.nodes, lLinks n.links, lEdges n.edges] ∧ h 9 = .ptr 2 0 1 ∧ h 10 = .ptr 3 0 1 ∧ h 11 = .fn 51 [] [.cp [lNodes n.nodes, lLinks n.links, lEdges n.edges], .ptr 2 0 1] ∧ h 12 = .fn 53 [] [.ptr 2 0 1, .ptr 3 0 1] ∧ h 13 = .int .i64 value) ∧ bs = [.gone, .cells false flow.length (l.map (T.int .i64)), .cells true 1 [.arr 1 1 0 flow.length flow.length flow.length], .cells true 1 [.arr 4 2 0 n2 n2 (n2 * 2)], .cells false (n2 * 2) (vecC eStrand l2)]) ?_ k _ _ ?_
 rotate_left
 ·exact ⟨rCheck.1, flow, [], 0, H, kq hh, rfl⟩
 clear hh h H
 rintro m h bs ⟨value, l, l2, n2, H, hh, rfl⟩
 rcases m with _ | m
 ·rw [sflow_Split_L0] at H; cases H
 rw [sflow_Split_L0] at H
 obtain ⟨o2, H1, H⟩ := bsome H
 repeat apply TW.seq
 refine cu [1, 2, 4, 9, 10, 11, 12, 13] 5 (fun h bs => ∃ s_ : Int × List Int × List Strand × Nat, o2 = .inr s_ ∧ (h 1 = .int .i64 from_ ∧ h 2 = .int .i64 to_ ∧ h 4 = .cp [lNodes n.nodes, lLinks n.links, lEdges n.edges] ∧ h 9 = .ptr 2 0 1 ∧ h 10 = .ptr 3 0 1 ∧ h 11 = .fn 51 [] [.cp [lNodes n.nodes, lLinks n.links, lEdges n.edges], .ptr 2 0 1] ∧ h 12 = .fn 53 [] [.ptr 2 0 1, .ptr 3 0 1] ∧ h 13 = .int .i64 s_.1) ∧ bs = [.gone, .cells false flow.length (s_.2.1.map (T.int .i64)), .cells true 1 [.arr 1 1 0 flow.length flow.length flow.length], .cells true 1 [.arr 4 2 0 s_.2.2.2 s_.2.2.2 (s_.2.2.2 * 2)], .cells false (s_.2.2.2 * 2) (vecC eStrand s_.2.2.1)]) ?_ ?_
 ·skip
  repeat apply TW.seq
  apply TW.block
  repeat apply TW.seq
  refine rk [1, 2, 4, 9, 10, 11, 12, 13, 15] [] hh ?_
  clear hh h
  intro h hh
  repeat apply TW.seq
  refine rk [1, 2, 4, 9, 10, 11, 12, 13, 15, 37] [] hh ?_
  clear hh h
  intro h hh
  obtain ⟨o, H2, H1⟩ := bsome H1
  repeat apply TW.seq
  refine cu [1, 2, 4, 9, 10, 11, 12, 13, 15] 5 (fun h bs => ∃ s_2 : Int, o = .inr s_2 ∧ (h 1 = .int .i64 from_ ∧ h 2 = .int .i64 to_ ∧ h 4 = .cp [lNodes n.nodes, lLinks n.links, lEdges n.edges] ∧ h 9 = .ptr 2 0 1 ∧ h 10 = .ptr 3 0 1 ∧ h 11 = .fn 51 [] [.cp [lNodes n.nodes, lLinks n.links, lEdges n.edges], .ptr 2 0 1] ∧ h 12 = .fn 53 [] [.ptr 2 0 1, .ptr 3 0 1] ∧ h 13 = .int .i64 value ∧ h 15 = .int .i64 s_2) ∧ bs = [.gone, .cells false flow.length (l.map (T.int .i64)), .cells true 1 [.arr 1 1 0 flow.length flow.length flow.length], .cells true 1 [.arr 4 2 0 n2 n2 (n2 * 2)], .cells false (n2 * 2) (vecC eStrand l2)]) ?_ ?_
  ·skip
   rcases isp H2 with ⟨c3, H2⟩ | ⟨c3, H2⟩
   rotate_left
   ·skip
    repeat apply TW.seq
    refine cf (f2 hh (decide_eq_false c3)) ?_
    repeat apply TW.seq
    refine sk ?_
    cases H2
    exact ce (f2 hh ((fun m => ids_vec (n := m) (f := eStrand) ids_cS))) ⟨_, rfl, kq hh, rfl⟩
   repeat apply TW.seq
   refine ct (f2 hh (decide_eq_true c3)) ?_
   obtain ⟨g4, H2⟩ := isg H2
   obtain ⟨rIndexFunc, e5, H2⟩ := bsome H2
   repeat apply TW.seq
   refine rkc [1, 2, 4, 9, 10, 11, 12, 13, 16] [] [(.int .i64 rIndexFunc, stL [.gone, .cells false flow.length (l.map (T.int .i64)), .cells true 1 [.arr 1 1 0 flow.length flow.length flow.length], .cells true 1 [.arr 4 2 0 n2 n2 (n2 * 2)], .cells false (n2 * 2) (vecC eStrand l2)])] hh ?_ ?_
   ·exact ⟨(by have q := Call0.call (Pure.lend (S := stL [.gone, .cells false flow.length (l.map (T.int .i64)), .cells true 1 [.arr 1 1 0 flow.length flow.length flow.length], .cells true 1 [.arr 4 2 0 n2 n2 (n2 * 2)], .cells false (n2 * 2) (vecC eStrand l2)]) (args := [.arr 1 1 0 flow.length flow.length flow.length, .fn 55 [] []]) (sslices_IndexFunc_ok ax hx k l (fun y => sflow_Split_3 k y) rIndexFunc e5 55 [] (by simp only [ids2B, ids2C, idsA, idsB, idsC, idsD, idsE, Bool.and_self]) (fun y w hw => by first | exact sflow_Split_3_ok ax hx k y w hw | exact (sflow_Split_3_ok ax hx k y w hw))) (And.intro (lend_map (fun _ => rfl) (by rfl) g4) (And.intro (Or.inl rfl) (trivial))) rfl); exact q), trivial⟩
   clear hh h
   intro h hh
   repeat apply TW.seq
   refine rk [1, 2, 4, 9, 10, 11, 12, 13, 16, 41] [] hh ?_
   clear hh h
   intro h hh
   rcases isp H2 with ⟨c6, H2⟩ | ⟨c6, H2⟩
   rotate_left
   ·skip
    repeat apply TW.seq
    refine cf (f2 hh (decide_eq_false c6)) ?_
    repeat apply TW.seq
    refine sk ?_
    obtain ⟨g8, H2⟩ := isg H2
    repeat apply TW.seq
    refine rk [1, 2, 4, 9, 10, 11, 12, 13, 15] [] (f3 hh (gx_some g8) (fc26_1 ax)) ?_
    clear hh h
    intro h hh
    cases H2
    exact ce (f2 hh ((fun m => ids_vec (n := m) (f := eStrand) ids_cS))) ⟨_, rfl, kq hh, rfl⟩
   repeat apply TW.seq
   refine ct (f2 hh (decide_eq_true c6)) ?_
   repeat apply TW.seq
   refine rk [8] [] hh ?_
   clear hh h
   intro h hh
   obtain ⟨g7, H2⟩ := isg H2
   refine TW.freeze 8 (b := 4) (e := 2) (off := 0) (len := n2) (cap := n2) (M := (n2 * 2)) (l2.map eStrand) (kq hh) (by rfl) (by omega) (by omega) (by rw [List.drop_zero]; exact vecC_take (fun _ => rfl) g7) (fun t ht => by obtain ⟨x, _, rfl⟩ := List.mem_map.1 ht; first | rfl | (rw [List.length_map]; rfl)) (by rw [List.length_map]; exact g7) (by omega) ?_
   rw [st_set _ _ _ (by simp only [lzA] <;> omega)]
   simp only [scA]
   refine gk [8] hh ?_
   clear hh h
   intro h hh
   cases H2
   obtain rfl := sinm H1
   obtain rfl := sinl H
   exact rt hh
  clear hh h
  rintro h bs ⟨s_2, rfl, hh, rfl⟩
  replace H1 := sinr H1
  repeat apply TW.seq
  refine rk [1, 2, 4, 9, 10, 11, 12, 13, 15, 17] [] hh ?_
  clear hh h
  intro h hh
  refine vk 17 1 [1, 2, 4, 9, 10, 11, 12, 13, 15, 17] hh ?_
  clear hh h
  intro h hh
  repeat apply TW.seq
  refine rg [] [] [.gone, .cells false flow.length (l.map (T.int .i64)), .cells true 1 [.arr 1 1 0 flow.length flow.length flow.length], .cells true 1 [.arr 4 2 0 n2 n2 (n2 * 2)], .cells false (n2 * 2) (vecC eStrand l2), .cells false 0 ([].map (T.int .i64)), .map ((mset s_2 0 ([] : List (Int × Int))).map fun p => ((T.int .i64) p.1, (T.int .i64) p.2))] (fun h => h 1 = .int .i64 from_ ∧ h 2 = .int .i64 to_ ∧ h 4 = .cp [lNodes n.nodes, lLinks n.links, lEdges n.edges] ∧ h 9 = .ptr 2 0 1 ∧ h 10 = .ptr 3 0 1 ∧ h 11 = .fn 51 [] [.cp [lNodes n.nodes, lLinks n.links, lEdges n.edges], .ptr 2 0 1] ∧ h 12 = .fn 53 [] [.ptr 2 0 1, .ptr 3 0 1] ∧ h 13 = .int .i64 value ∧ h 15 = .int .i64 s_2 ∧ h 17 = .arr 5 1 0 0 0 0 ∧ h 18 = .mp 6) (f3 hh ((show tSet (.int .i64 s_2) (.int .i64 0) [] = some ((mset s_2 0 ([] : List (Int × Int))).map fun p => (.int .i64 p.1, (T.int .i64) p.2)) from tset_int (l := []))) (ti84 ax)) trivial ?_
  clear hh h
  intro h hh
  repeat apply TW.seq
  apply TW.block
  repeat apply TW.seq
  refine TW.loopT [1, 2, 4, 9, 10, 11, 12, 13, 15, 17, 18] (fun m h bs => ∃ (value2 : Int) (at_ : Int) (l3 : List Int) (n3 : Nat) (mp : List (Int × Int)), sflow_Split_L1 k n to_ flow l l2 n2 m value2 at_ l3 n3 mp = some o2 ∧ (h 1 = .int .i64 from_ ∧ h 2 = .int .i64 to_ ∧ h 4 = .cp [lNodes n.nodes, lLinks n.links, lEdges n.edges] ∧ h 9 = .ptr 2 0 1 ∧ h 10 = .ptr 3 0 1 ∧ h 11 = .fn 51 [] [.cp [lNodes n.nodes, lLinks n.links, lEdges n.edges], .ptr 2 0 1] ∧ h 12 = .fn 53 [] [.ptr 2 0 1, .ptr 3 0 1] ∧ h 13 = .int .i64 value2 ∧ h 15 = .int .i64 at_ ∧ h 17 = .arr 5 1 0 n3 n3 n3 ∧ h 18 = .mp 6) ∧ bs = [.gone, .cells false flow.length (l.map (T.int .i64)), .cells true 1 [.arr 1 1 0 flow.length flow.length flow.length], .cells true 1 [.arr 4 2 0 n2 n2 (n2 * 2)], .cells false (n2 * 2) (vecC eStrand l2), .cells false n3 (l3.map (T.int .i64)), .map (mp.map fun p => ((T.int .i64) p.1, (T.int .i64) p.2))]) ?_ k _ _ ?_
  rotate_left
  ·exact ⟨value, s_2, [], 0, (mset s_2 0 ([] : List (Int × Int))), H1, kq hh, rfl⟩
  clear hh h H1
  rintro m h bs ⟨value2, at_, l3, n3, mp, H1, hh, rfl⟩
  rcases m with _ | m
  ·rw [sflow_Split_L1] at H1; cases H1
  rw [sflow_Split_L1] at H1
  repeat apply TW.seq
  apply TW.block
  obtain ⟨rb, e9, H1⟩ := bsome H1
  repeat apply TW.seq
  refine rkc [1, 2, 4, 9, 10, 11, 12, 13, 17, 18, 19] [] [(.int .i64 rb, stL [.gone, .cells false flow.length (l.map (T.int .i64)), .cells true 1 [.arr 1 1 0 flow.length flow.length flow.length], .cells true 1 [.arr 4 2 0 n2 n2 (n2 * 2)], .cells false (n2 * 2) (vecC eStrand l2), .cells false n3 (l3.map (T.int .i64)), .map (mp.map fun p => ((T.int .i64) p.1, (T.int .i64) p.2))])] hh ?_ ?_
  ·exact ⟨cas [2, 1] (sflow_Split_1_b_ok ax hx k flow.length at_ n l rb e9), trivial⟩
  clear hh h
  intro h hh
  obtain ⟨g10, H1⟩ := isg H1
  repeat apply TW.seq
  refine rg [] [] [.gone, .cells false flow.length (l.map (T.int .i64)), .cells true 1 [.arr 1 1 0 flow.length flow.length flow.length], .cells true 1 [.arr 4 2 0 n2 n2 (n2 * 2)], .cells false (n2 * 2) (vecC eStrand l2), .cells false (n3 + 1) ((l3 ++ [rb]).map (T.int .i64)), .map (mp.map fun p => ((T.int .i64) p.1, (T.int .i64) p.2))] (fun h => h 1 = .int .i64 from_ ∧ h 2 = .int .i64 to_ ∧ h 4 = .cp [lNodes n.nodes, lLinks n.links, lEdges n.edges] ∧ h 9 = .ptr 2 0 1 ∧ h 10 = .ptr 3 0 1 ∧ h 11 = .fn 51 [] [.cp [lNodes n.nodes, lLinks n.links, lEdges n.edges], .ptr 2 0 1] ∧ h 12 = .fn 53 [] [.ptr 2 0 1, .ptr 3 0 1] ∧ h 13 = .int .i64 value2 ∧ h 17 = .arr 5 1 0 (n3 + 1) (n3 + 1) (n3 + 1) ∧ h 18 = .mp 6 ∧ h 19 = .int .i64 rb) hh trivial ?_
  clear hh h
  intro h hh
  obtain ⟨g11, H1⟩ := isg H1
  repeat apply TW.seq
  refine rk [1, 2, 4, 9, 10, 11, 12, 13, 15, 17, 18] [] (f3 hh (gx_some g11) (fc26_1 ax)) ?_
  clear hh h
  intro h hh
  repeat apply TW.seq
  refine rk [1, 2, 4, 9, 10, 11, 12, 13, 15, 17, 18, 20, 21] [] (f2 hh (ti84 ax)) ?_
  clear hh h
  intro h hh
  repeat apply TW.seq
  refine rk [1, 2, 4, 9, 10, 11, 12, 13, 15, 17, 18, 20, 71] [] hh ?_
  clear hh h
  intro h hh
  rcases isb H1 with ⟨c12, H1⟩ | ⟨c12, H1⟩
  rotate_left
  ·skip
   repeat apply TW.seq
   refine cf (f2 hh c12) ?_
   repeat apply TW.seq
   refine sk ?_
   obtain ⟨s_3, H2, H1⟩ := bsome H1
   repeat apply TW.seq
   refine cu [1, 2, 4, 9, 10, 11, 12, 13, 15, 17, 18, 83] 7 (fun h bs => (h 1 = .int .i64 from_ ∧ h 2 = .int .i64 to_ ∧ h 4 = .cp [lNodes n.nodes, lLinks n.links, lEdges n.edges] ∧ h 9 = .ptr 2 0 1 ∧ h 10 = .ptr 3 0 1 ∧ h 11 = .fn 51 [] [.cp [lNodes n.nodes, lLinks n.links, lEdges n.edges], .ptr 2 0 1] ∧ h 12 = .fn 53 [] [.ptr 2 0 1, .ptr 3 0 1] ∧ h 13 = .int .i64 value2 ∧ h 15 = .int .i64 ((gx n.links rb).to) ∧ h 17 = .arr 5 1 0 (n3 + 1) (n3 + 1) (n3 + 1) ∧ h 18 = .mp 6 ∧ h 83 = .bool s_3) ∧ bs = [.gone, .cells false flow.length (l.map (T.int .i64)), .cells true 1 [.arr 1 1 0 flow.length flow.length flow.length], .cells true 1 [.arr 4 2 0 n2 n2 (n2 * 2)], .cells false (n2 * 2) (vecC eStrand l2), .cells false (n3 + 1) ((l3 ++ [rb]).map (T.int .i64)), .map (mp.map fun p => ((T.int .i64) p.1, (T.int .i64) p.2))]) ?_ ?_
   ·skip
    rcases isp H2 with ⟨c16, H2⟩ | ⟨c16, H2⟩
    rotate_left
    ·skip
     repeat apply TW.seq
     refine rk [1, 2, 4, 9, 10, 11, 12, 13, 15, 17, 18, 83] [] (f3 hh (decide_eq_false c16) c12) ?_
     clear hh h
     intro h hh
     cases H2
     exact ce (f2 hh ((fun m => ids_vec (n := m) (f := eStrand) ids_cS))) ⟨kq hh, rfl⟩
    repeat apply TW.seq
    refine rk [1, 2, 4, 9, 10, 11, 12, 13, 15, 17, 18, 83] [] (f3 hh (decide_eq_true c16) c12) ?_
    clear hh h
    intro h hh
    cases H2
    exact ce (f2 hh ((fun m => ids_vec (n := m) (f := eStrand) ids_cS))) ⟨kq hh, rfl⟩
   clear hh h
   rintro h bs ⟨hh, rfl⟩
   rcases isb H1 with ⟨c17, H1⟩ | ⟨c17, H1⟩
   rotate_left
   ·skip
    repeat apply TW.seq
    refine cf (f2 hh c17) ?_
    repeat apply TW.seq
    refine sk ?_
    repeat apply TW.seq
    refine rg [] [] [.gone, .cells false flow.length (l.map (T.int .i64)), .cells true 1 [.arr 1 1 0 flow.length flow.length flow.length], .cells true 1 [.arr 4 2 0 n2 n2 (n2 * 2)], .cells false (n2 * 2) (vecC eStrand l2), .cells false (n3 + 1) ((l3 ++ [rb]).map (T.int .i64)), .map ((mset ((gx n.links rb).to) ((n3 + 1) : Int) mp).map fun p => ((T.int .i64) p.1, (T.int .i64) p.2))] (fun h => h 1 = .int .i64 from_ ∧ h 2 = .int .i64 to_ ∧ h 4 = .cp [lNodes n.nodes, lLinks n.links, lEdges n.edges] ∧ h 9 = .ptr 2 0 1 ∧ h 10 = .ptr 3 0 1 ∧ h 11 = .fn 51 [] [.cp [lNodes n.nodes, lLinks n.links, lEdges n.edges], .ptr 2 0 1] ∧ h 12 = .fn 53 [] [.ptr 2 0 1, .ptr 3 0 1] ∧ h 13 = .int .i64 value2 ∧ h 15 = .int .i64 ((gx n.links rb).to) ∧ h 17 = .arr 5 1 0 (n3 + 1) (n3 + 1) (n3 + 1) ∧ h 18 = .mp 6) (f3 hh c12 (f2 c17 (ti84 ax))) trivial ?_
    clear hh h
    intro h hh
    exact rd m (f2 hh ((fun m => ids_vec (n := m) (f := eStrand) ids_cS))) ⟨value2, ((gx n.links rb).to), (l3 ++ [rb]), (n3 + 1), (mset ((gx n.links rb).to) ((n3 + 1) : Int) mp), H1, kq hh, rfl⟩
   repeat apply TW.seq
   refine ct (f2 hh c17) ?_
   obtain ⟨g18, H1⟩ := isg H1
   repeat apply TW.seq
   refine TW.freeze 17 (b := 5) (e := 1) (off := 0) (len := (n3 + 1)) (cap := (n3 + 1)) (M := (n3 + 1)) ((l3 ++ [rb]).map (T.int .i64)) (kq hh) (by rfl) (by omega) (by omega) (by rw [List.drop_zero, Nat.mul_one, cells_map (fun _ => rfl), List.take_of_length_le (by rw [List.length_map]; omega)]) (fun t ht => by obtain ⟨x, _, rfl⟩ := List.mem_map.1 ht; first | rfl | (rw [List.length_map]; rfl)) (by rw [List.length_map]; exact g18) (by omega) ?_
   rw [st_set _ _ _ (by simp only [lzA] <;> omega)]
   simp only [scA]
   refine gk [1, 2, 4, 9, 10, 11, 12, 13, 15, 17, 18, 83] hh ?_
   clear hh h
   intro h hh
   obtain ⟨rb3, e19, H1⟩ := bsome H1
   repeat apply TW.seq
   refine rkc [1, 2, 4, 9, 10, 11, 12, 13] [] [(.int .i64 rb3.1, stL [.gone, .cells false flow.length (rb3.2.1.map (T.int .i64)), .cells true 1 [.arr 1 1 0 flow.length flow.length flow.length], .cells true 1 [.arr 4 2 0 rb3.2.2.2 rb3.2.2.2 (rb3.2.2.2 * 2)], .cells false (rb3.2.2.2 * 2) (vecC eStrand rb3.2.2.1), .gone, .map (mp.map fun p => ((T.int .i64) p.1, (T.int .i64) p.2))])] (f3 hh c12 c17) ?_ ?_
   ·exact ⟨cas [2, 3, 1, 4] (sflow_Split_2_b_ok ax hx k flow.length n2 (l3 ++ [rb]) value2 l l2 rb3 e19), trivial⟩
   clear hh h
   intro h hh
   refine xk ?_
   cases H1
   exact ce (f2 hh ((fun m => ids_vec (n := m) (f := eStrand) ids_cS))) ⟨_, rfl, kq hh, rfl⟩
  repeat apply TW.seq
  refine ct (f2 hh c12) ?_
  obtain ⟨g13, H1⟩ := isg H1
  repeat apply TW.seq
  refine TW.freeze 17 (b := 5) (e := 1) (off := 0) (len := (n3 + 1)) (cap := (n3 + 1)) (M := (n3 + 1)) ((l3 ++ [rb]).map (T.int .i64)) (kq hh) (by rfl) (by omega) (by omega) (by rw [List.drop_zero, Nat.mul_one, cells_map (fun _ => rfl), List.take_of_length_le (by rw [List.length_map]; omega)]) (fun t ht => by obtain ⟨x, _, rfl⟩ := List.mem_map.1 ht; first | rfl | (rw [List.length_map]; rfl)) (by rw [List.length_map]; exact g13) (by omega) ?_
  rw [st_set _ _ _ (by simp only [lzA] <;> omega)]
  simp only [scA]
  refine gk [1, 2, 4, 9, 10, 11, 12, 13, 15, 17, 18, 20, 71] hh ?_
  clear hh h
  intro h hh
  obtain ⟨g14, H1⟩ := isg H1
  obtain ⟨rb2, e15, H1⟩ := bsome H1
  repeat apply TW.seq
  refine rkc [1, 2, 4, 9, 10, 11, 12, 13] [] [(.int .i64 rb2.1, stL [.gone, .cells false flow.length (rb2.2.1.map (T.int .i64)), .cells true 1 [.arr 1 1 0 flow.length flow.length flow.length], .cells true 1 [.arr 4 2 0 rb2.2.2.2 rb2.2.2.2 (rb2.2.2.2 * 2)], .cells false (rb2.2.2.2 * 2) (vecC eStrand rb2.2.2.1), .gone, .map (mp.map fun p => ((T.int .i64) p.1, (T.int .i64) p.2))])] (f3 hh c12 (f2 (bnd_lo g14) (drop_map (T.int .i64) (l3 ++ [rb])))) ?_ ?_
  ·exact ⟨cas [2, 3, 1, 4] (sflow_Split_2_b_ok ax hx k flow.length n2 ((l3 ++ [rb]).drop ((mget ((gx n.links rb).to) mp).getD 0).toNat) 4294967296 l l2 rb2 e15), trivial⟩
  clear hh h
  intro h hh
  refine xk ?_
  cases H1
  exact ce (f2 hh ((fun m => ids_vec (n := m) (f := eStrand) ids_cS))) ⟨_, rfl, kq hh, rfl⟩
 clear hh h
 rintro h bs ⟨s_, rfl, hh, rfl⟩
 replace H := sinr H
 exact rd m (f2 hh ((fun m => ids_vec (n := m) (f := eStrand) ids_cS))) ⟨s_.1, s_.2.1, s_.2.2.1, s_.2.2.2, H, kq hh, rfl⟩
end Go.Proofs.Ytfalnphlgfoflaa