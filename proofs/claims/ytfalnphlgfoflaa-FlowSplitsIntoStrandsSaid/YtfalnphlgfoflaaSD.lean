/- Functions as plain functions, and that the code computes them. -/
import Derived.Test.YtfalnphlgfoflaaSB
import Derived.Test.YtfalnphlgfoflaaSCl
namespace Go.Proofs.Ytfalnphlgfoflaa
open Go Go.RowKit
set_option linter.unusedSimpArgs false
set_option linter.unusedVariables false
set_option linter.unusedSectionVars false
set_option maxRecDepth 100000
def sflow_Strands_1 (k : Nat) (x : Int) : Option Bool := some (decide (x ≠ 0))
set_option maxHeartbeats 8000000 in
theorem sflow_Strands_1_ok (ax : Axs) (hx : Plain ax) (k : Nat) (x : Int) (v : Bool) (H : sflow_Strands_1 k x = some v) : Pure Try.prog (EE ax) [] 45 [.int .i64 x] (.bool v) := by
 rw [sflow_Strands_1] at H
 refine en [.tmp 2] 5 [0] (hx.no _ (by decide)) (fn45 ax) ?_
 intro h hh
 repeat apply TW.seq
 refine rk [0] [] hh ?_
 clear hh h
 intro h hh
 repeat apply TW.seq
 refine rk [2] [] hh ?_
 clear hh h
 intro h hh
 cases H
 exact rt hh
def sflow_Strands_L1 (k : Nat) (n : Net) (flow : List Int) (l : List Strand) (i : Int) : Nat → Int → (List Int) → (List (Int × Bool)) → Option (Bool ⊕ (List Int × (List (Int × Bool))))
 | 0, _, _, _ => none
 | m + 1, i2, l3, mp => (if i2 < (((gx l i).links).length : Int) then (if (0 : Int) ≤ i2 ∧ i2 < (((gx l i).links).length : Int) then (((if (gx ((gx l i).links) i2) < 0 then some true else (if (n.links.length : Int) ≤ (gx ((gx l i).links) i2) then some true else (if (0 : Int) ≤ (gx ((gx l i).links) i2) ∧ (gx ((gx l i).links) i2) < (n.links.length : Int) then (if ((mget ((gx n.links (gx ((gx l i).links) i2)).frm) mp).getD false) = true then some true else (if 0 < i2 then (if (0 : Int) ≤ (IntKind.i64.wrap (i2 - 1)) ∧ (IntKind.i64.wrap (i2 - 1)) < (((gx l i).links).length : Int) then (if (0 : Int) ≤ (gx ((gx l i).links) (IntKind.i64.wrap (i2 - 1))) ∧ (gx ((gx l i).links) (IntKind.i64.wrap (i2 - 1))) < (n.links.length : Int) then (if ((gx n.links (gx ((gx l i).links) (IntKind.i64.wrap (i2 - 1)))).to) ≠ ((gx n.links (gx ((gx l i).links) i2)).frm) then some true else (if (0 : Int) ≤ (gx ((gx l i).links) i2) ∧ (gx ((gx l i).links) i2) < (flow.length : Int) then (if (gx ((gx l i).links) i2).toNat < l3.length then some (decide ((l3.getD (gx ((gx l i).links) i2).toNat default) < ((gx l i).amount))) else none) else none)) else none) else none) else (if (0 : Int) ≤ (gx ((gx l i).links) i2) ∧ (gx ((gx l i).links) i2) < (flow.length : Int) then (if (gx ((gx l i).links) i2).toNat < l3.length then some (decide ((l3.getD (gx ((gx l i).links) i2).toNat default) < ((gx l i).amount))) else none) else none))) else none))) : Option Bool).bind fun s_5 => (if s_5 = true then some (.inl false) else (if (0 : Int) ≤ (gx ((gx l i).links) i2) ∧ (gx ((gx l i).links) i2) < (n.links.length : Int) then (if (0 : Int) ≤ (gx ((gx l i).links) i2) ∧ (gx ((gx l i).links) i2) < (flow.length : Int) then (if (gx ((gx l i).links) i2).toNat < l3.length then sflow_Strands_L1 k n flow l i m (IntKind.i64.wrap (i2 + 1)) (l3.set (gx ((gx l i).links) i2).toNat (IntKind.i64.wrap ((l3.getD (gx ((gx l i).links) i2).toNat default) - ((gx l i).amount)))) (mset ((gx n.links (gx ((gx l i).links) i2)).frm) true mp) else none) else none) else none))) else none) else some (.inr (l3, mp)))
def sflow_Strands_L0 (k : Nat) (n : Net) (from_ : Int) (to_ : Int) (flow : List Int) (l : List Strand) : Nat → Int → (List Int) → Option (Bool ⊕ (List Int))
 | 0, _, _ => none
 | m + 1, i, l2 => (if i < (l.length : Int) then (((if (0 : Int) ≤ i ∧ i < (l.length : Int) then (((if ((gx l i).amount) < 1 then some true else some (decide ((((gx l i).links).length : Int) = 0))) : Option Bool).bind fun s_3 => (if s_3 = true then some (.inl false) else ((sflow_Strands_L1 k n flow l i k 0 l2 ([] : List (Int × Bool)) : Option (Bool ⊕ (List Int × (List (Int × Bool))))).bind fun o => Sum.elim (fun r => some (.inl r)) (fun s_4 => (if (0 : Int) ≤ 0 ∧ 0 < (((gx l i).links).length : Int) then (if (0 : Int) ≤ (gx ((gx l i).links) 0) ∧ (gx ((gx l i).links) 0) < (n.links.length : Int) then (if (0 : Int) ≤ (IntKind.i64.wrap ((((gx l i).links).length : Int) - 1)) ∧ (IntKind.i64.wrap ((((gx l i).links).length : Int) - 1)) < (((gx l i).links).length : Int) then (if (0 : Int) ≤ (gx ((gx l i).links) (IntKind.i64.wrap ((((gx l i).links).length : Int) - 1))) ∧ (gx ((gx l i).links) (IntKind.i64.wrap ((((gx l i).links).length : Int) - 1))) < (n.links.length : Int) then (if ((gx n.links (gx ((gx l i).links) 0)).frm) ≠ ((gx n.links (gx ((gx l i).links) (IntKind.i64.wrap ((((gx l i).links).length : Int) - 1)))).to) then (if ((gx n.links (gx ((gx l i).links) 0)).frm) ≠ from_ then some (.inl false) else (if ((gx n.links (gx ((gx l i).links) (IntKind.i64.wrap ((((gx l i).links).length : Int) - 1)))).to) ≠ to_ then some (.inl false) else (if ((mget ((gx n.links (gx ((gx l i).links) (IntKind.i64.wrap ((((gx l i).links).length : Int) - 1)))).to) s_4.2).getD false) = true then some (.inl false) else some (.inr s_4.1)))) else some (.inr s_4.1)) else none) else none) else none) else none)) o))) else none) : Option (Bool ⊕ (List Int))).bind fun o2 => Sum.elim (fun r => some (.inl r)) (fun s_2 => sflow_Strands_L0 k n from_ to_ flow l m (IntKind.i64.wrap (i + 1)) s_2) o2) else some (.inr l2))
def sflow_Strands (k : Nat) (n : Net) (from_ : Int) (to_ : Int) (flow : List Int) (l : List Strand) : Option Bool := (if flow.length * 9 ≤ 1000000000 then ((sflow_Strands_L0 k n from_ to_ flow l k 0 flow : Option (Bool ⊕ (List Int))).bind fun o3 => Sum.elim (fun r => some r) (fun s_ => (if (l.length : Int) ≤ (n.links.length : Int) then (if s_.length = flow.length then ((sslices_ContainsFunc k s_ (fun y => sflow_Strands_1 k y)).bind fun rContainsFunc => some (!rContainsFunc)) else none) else some false)) o3) else none)
set_option maxHeartbeats 8000000 in
theorem sflow_Strands_ok (ax : Axs) (hx : Plain ax) (k : Nat) (n : Net) (from_ : Int) (to_ : Int) (flow : List Int) (l : List Strand) (v : Bool) (H : sflow_Strands k n from_ to_ flow l = some v) : Pure Try.prog (EE ax) [] 23 [eNet n, .int .i64 from_, .int .i64 to_, ints flow, lStrands l] (.bool v) := by
 rw [sflow_Strands] at H
 refine en [.tmp 10] 165 [0, 1, 2, 3, 4] (hx.no _ (by decide)) (fn23 ax) ?_
 intro h hh
 repeat apply TW.seq
 refine rk [1, 2, 3, 4, 5] [] hh ?_
 clear hh h
 intro h hh
 obtain ⟨g1, H⟩ := isg H
 repeat apply TW.seq
 refine rkc [1, 2, 4, 5, 11] [] [(.arr 1 1 0 flow.length flow.length flow.length, stL [.cells true 3 [lNodes n.nodes, lLinks n.links, lEdges n.edges], .cells false flow.length (flow.map (T.int .i64))])] hh ?_ ?_
 ·exact ⟨(by have q := Call.fresh (sClone_new ax hx flow g1) (by simp only [ids2B, idsA, idsB, idsC, idsD, idsE, Bool.and_self]) (by simp only [ids2B, idsA, idsB, idsC, idsD, idsE, Bool.and_self]) [.cells true 3 [lNodes n.nodes, lLinks n.links, lEdges n.edges]]; exact q), trivial⟩
 clear hh h
 intro h hh
 repeat apply TW.seq
 refine rk [1, 2, 4, 5, 11, 21, 22, 23] [] hh ?_
 clear hh h
 intro h hh
 obtain ⟨o3, H1, H⟩ := bsome H
 repeat apply TW.seq
 refine cu [4, 5, 11] 2 (fun h bs => ∃ s_ : List Int, o3 = .inr s_ ∧ (h 4 = lStrands l ∧ h 5 = .ptr 0 0 3 ∧ h 11 = .arr 1 1 0 flow.length flow.length flow.length) ∧ bs = [.cells true 3 [lNodes n.nodes, lLinks n.links, lEdges n.edges], .cells false flow.length (s_.map (T.int .i64))]) ?_ ?_
 ·skip
  repeat apply TW.seq
  apply TW.block
  repeat apply TW.seq
  refine TW.loopT [1, 2, 4, 5, 11, 21, 22, 23] (fun m h bs => ∃ (i : Int) (l2 : List Int), sflow_Strands_L0 k n from_ to_ flow l m i l2 = some o3 ∧ (h 1 = .int .i64 from_ ∧ h 2 = .int .i64 to_ ∧ h 4 = lStrands l ∧ h 5 = .ptr 0 0 3 ∧ h 11 = .arr 1 1 0 flow.length flow.length flow.length ∧ h 21 = lStrands l ∧ h 22 = .int .i64 (l.length : Int) ∧ h 23 = .int .i64 i) ∧ bs = [.cells true 3 [lNodes n.nodes, lLinks n.links, lEdges n.edges], .cells false flow.length (l2.map (T.int .i64))]) ?_ k _ _ ?_
  rotate_left
  ·exact ⟨0, flow, H1, kq hh, rfl⟩
  clear hh h H1
  rintro m h bs ⟨i, l2, H1, hh, rfl⟩
  rcases m with _ | m
  ·rw [sflow_Strands_L0] at H1; cases H1
  rw [sflow_Strands_L0] at H1
  repeat apply TW.seq
  refine rk [1, 2, 4, 5, 11, 21, 22, 23, 24] [] hh ?_
  clear hh h
  intro h hh
  rcases isp H1 with ⟨c2, H1⟩ | ⟨c2, H1⟩
  rotate_left
  ·skip
   repeat apply TW.seq
   refine cf (f2 hh (decide_eq_false c2)) ?_
   refine xk ?_
   cases H1
   exact ce hh ⟨_, rfl, kq hh, rfl⟩
  repeat apply TW.seq
  refine ct (f2 hh (decide_eq_true c2)) ?_
  repeat apply TW.seq
  refine sk ?_
  obtain ⟨o2, H2, H1⟩ := bsome H1
  repeat apply TW.seq
  refine cu [1, 2, 4, 5, 11, 21, 22, 23] 2 (fun h bs => ∃ s_2 : List Int, o2 = .inr s_2 ∧ (h 1 = .int .i64 from_ ∧ h 2 = .int .i64 to_ ∧ h 4 = lStrands l ∧ h 5 = .ptr 0 0 3 ∧ h 11 = .arr 1 1 0 flow.length flow.length flow.length ∧ h 21 = lStrands l ∧ h 22 = .int .i64 (l.length : Int) ∧ h 23 = .int .i64 i) ∧ bs = [.cells true 3 [lNodes n.nodes, lLinks n.links, lEdges n.edges], .cells false flow.length (s_2.map (T.int .i64))]) ?_ ?_
  ·skip
   repeat apply TW.seq
   apply TW.block
   obtain ⟨g3, H2⟩ := isg H2
   repeat apply TW.seq
   refine rk [1, 2, 4, 5, 11, 13, 21, 22, 23] [] (f2 hh (gx_some g3)) ?_
   clear hh h
   intro h hh
   obtain ⟨s_3, H3, H2⟩ := bsome H2
   repeat apply TW.seq
   refine cu [1, 2, 4, 5, 11, 13, 21, 22, 23, 35] 3 (fun h bs => (h 1 = .int .i64 from_ ∧ h 2 = .int .i64 to_ ∧ h 4 = lStrands l ∧ h 5 = .ptr 0 0 3 ∧ h 11 = .arr 1 1 0 flow.length flow.length flow.length ∧ h 13 = .ptr 2 0 2 ∧ h 21 = lStrands l ∧ h 22 = .int .i64 (l.length : Int) ∧ h 23 = .int .i64 i ∧ h 35 = .bool s_3) ∧ bs = [.cells true 3 [lNodes n.nodes, lLinks n.links, lEdges n.edges], .cells false flow.length (l2.map (T.int .i64)), .cells true 2 [ints ((gx l i).links), .int .i64 ((gx l i).amount)]]) ?_ ?_
   ·skip
    rcases isp H3 with ⟨c4, H3⟩ | ⟨c4, H3⟩
    rotate_left
    ·skip
     repeat apply TW.seq
     refine rk [1, 2, 4, 5, 11, 13, 21, 22, 23, 35] [] (f2 hh (decide_eq_false c4)) ?_
     clear hh h
     intro h hh
     cases H3
     exact ce hh ⟨kq hh, rfl⟩
    repeat apply TW.seq
    refine rk [1, 2, 4, 5, 11, 13, 21, 22, 23, 35] [] (f2 hh (decide_eq_true c4)) ?_
    clear hh h
    intro h hh
    cases H3
    exact ce hh ⟨kq hh, rfl⟩
   clear hh h
   rintro h bs ⟨hh, rfl⟩
   rcases isb H2 with ⟨c5, H2⟩ | ⟨c5, H2⟩
   rotate_left
   ·skip
    repeat apply TW.seq
    refine cf (f2 hh c5) ?_
    repeat apply TW.seq
    refine sk ?_
    repeat apply TW.seq
    refine rk [1, 2, 4, 5, 11, 13, 14, 21, 22, 23] [] (f2 hh c5) ?_
    clear hh h
    intro h hh
    repeat apply TW.seq
    refine rk [1, 2, 4, 5, 11, 13, 14, 21, 22, 23, 38, 39, 40] [] (f2 hh c5) ?_
    clear hh h
    intro h hh
    obtain ⟨o, H3, H2⟩ := bsome H2
    repeat apply TW.seq
    refine cu [1, 2, 4, 5, 11, 13, 14, 21, 22, 23] 4 (fun h bs => ∃ s_4 : List Int × (List (Int × Bool)), o = .inr s_4 ∧ (h 1 = .int .i64 from_ ∧ h 2 = .int .i64 to_ ∧ h 4 = lStrands l ∧ h 5 = .ptr 0 0 3 ∧ h 11 = .arr 1 1 0 flow.length flow.length flow.length ∧ h 13 = .ptr 2 0 2 ∧ h 14 = .mp 3 ∧ h 21 = lStrands l ∧ h 22 = .int .i64 (l.length : Int) ∧ h 23 = .int .i64 i) ∧ bs = [.cells true 3 [lNodes n.nodes, lLinks n.links, lEdges n.edges], .cells false flow.length (s_4.1.map (T.int .i64)), .cells true 2 [ints ((gx l i).links), .int .i64 ((gx l i).amount)], .map (s_4.2.map fun p => ((T.int .i64) p.1, T.bool p.2))]) ?_ ?_
    ·skip
     repeat apply TW.seq
     apply TW.block
     repeat apply TW.seq
     refine TW.loopT [1, 2, 4, 5, 11, 13, 14, 21, 22, 23, 38, 39, 40] (fun m h bs => ∃ (i2 : Int) (l3 : List Int) (mp : List (Int × Bool)), sflow_Strands_L1 k n flow l i m i2 l3 mp = some o ∧ (h 1 = .int .i64 from_ ∧ h 2 = .int .i64 to_ ∧ h 4 = lStrands l ∧ h 5 = .ptr 0 0 3 ∧ h 11 = .arr 1 1 0 flow.length flow.length flow.length ∧ h 13 = .ptr 2 0 2 ∧ h 14 = .mp 3 ∧ h 21 = lStrands l ∧ h 22 = .int .i64 (l.length : Int) ∧ h 23 = .int .i64 i ∧ h 38 = ints ((gx l i).links) ∧ h 39 = .int .i64 (((gx l i).links).length : Int) ∧ h 40 = .int .i64 i2) ∧ bs = [.cells true 3 [lNodes n.nodes, lLinks n.links, lEdges n.edges], .cells false flow.length (l3.map (T.int .i64)), .cells true 2 [ints ((gx l i).links), .int .i64 ((gx l i).amount)], .map (mp.map fun p => ((T.int .i64) p.1, T.bool p.2))]) ?_ k _ _ ?_
     rotate_left
     ·exact ⟨0, l2, ([] : List (Int × Bool)), H3, kq hh, rfl⟩
     clear hh h H3
     rintro m h bs ⟨i2, l3, mp, H3, hh, rfl⟩
     rcases m with _ | m
     ·rw [sflow_Strands_L1] at H3; cases H3
     rw [sflow_Strands_L1] at H3
     repeat apply TW.seq
     refine rk [1, 2, 4, 5, 11, 13, 14, 21, 22, 23, 38, 39, 40, 41] [] (f2 hh c5) ?_
     clear hh h
     intro h hh
     rcases isp H3 with ⟨c6, H3⟩ | ⟨c6, H3⟩
     rotate_left
     ·skip
      repeat apply TW.seq
      refine cf (f2 hh (decide_eq_false c6)) ?_
      refine xk ?_
      cases H3
      exact ce hh ⟨_, rfl, kq hh, rfl⟩
     repeat apply TW.seq
     refine ct (f2 hh (decide_eq_true c6)) ?_
     repeat apply TW.seq
     refine sk ?_
     repeat apply TW.seq
     apply TW.block
     obtain ⟨g7, H3⟩ := isg H3
     repeat apply TW.seq
     refine rk [1, 2, 4, 5, 11, 13, 14, 15, 16, 21, 22, 23, 38, 39, 40] [] (f3 hh c5 (gx_some g7)) ?_
     clear hh h
     intro h hh
     obtain ⟨s_5, H4, H3⟩ := bsome H3
     repeat apply TW.seq
     refine cu [1, 2, 4, 5, 11, 13, 14, 16, 21, 22, 23, 38, 39, 40, 96] 4 (fun h bs => (h 1 = .int .i64 from_ ∧ h 2 = .int .i64 to_ ∧ h 4 = lStrands l ∧ h 5 = .ptr 0 0 3 ∧ h 11 = .arr 1 1 0 flow.length flow.length flow.length ∧ h 13 = .ptr 2 0 2 ∧ h 14 = .mp 3 ∧ h 16 = .int .i64 (gx ((gx l i).links) i2) ∧ h 21 = lStrands l ∧ h 22 = .int .i64 (l.length : Int) ∧ h 23 = .int .i64 i ∧ h 38 = ints ((gx l i).links) ∧ h 39 = .int .i64 (((gx l i).links).length : Int) ∧ h 40 = .int .i64 i2 ∧ h 96 = .bool s_5) ∧ bs = [.cells true 3 [lNodes n.nodes, lLinks n.links, lEdges n.edges], .cells false flow.length (l3.map (T.int .i64)), .cells true 2 [ints ((gx l i).links), .int .i64 ((gx l i).amount)], .map (mp.map fun p => ((T.int .i64) p.1, T.bool p.2))]) ?_ ?_
     ·skip
      rcases isp H4 with ⟨c8, H4⟩ | ⟨c8, H4⟩
      rotate_left
      ·skip
       rcases isp H4 with ⟨c9, H4⟩ | ⟨c9, H4⟩
       rotate_left
       ·skip
        obtain ⟨g10, H4⟩ := isg H4
        rcases isb H4 with ⟨c11, H4⟩ | ⟨c11, H4⟩
        rotate_left
        ·skip
         rcases isp H4 with ⟨c12, H4⟩ | ⟨c12, H4⟩
         rotate_left
         ·skip
          obtain ⟨g18, H4⟩ := isg H4
          obtain ⟨g19, H4⟩ := isg H4
          repeat apply TW.seq
          refine dk 50 [1, 2, 4, 5, 11, 13, 14, 16, 21, 22, 23, 38, 39, 40, 96] [] [] [] (f3 hh (decide_eq_false c8) (f3 (decide_eq_false c9) c11 (f3 (decide_eq_false c12) c5 (f2 (gx_some g10) (get_some g19))))) trivial trivial ?_
          clear hh h
          intro h hh
          cases H4
          exact ce hh ⟨kq hh, rfl⟩
         obtain ⟨g13, H4⟩ := isg H4
         obtain ⟨g14, H4⟩ := isg H4
         rcases isp H4 with ⟨c15, H4⟩ | ⟨c15, H4⟩
         rotate_left
         ·skip
          obtain ⟨g16, H4⟩ := isg H4
          obtain ⟨g17, H4⟩ := isg H4
          repeat apply TW.seq
          refine dk 50 [1, 2, 4, 5, 11, 13, 14, 16, 21, 22, 23, 38, 39, 40, 96] [] [] [] (f3 hh (decide_eq_false c8) (f3 (decide_eq_false c9) c11 (f3 (decide_eq_true c12) (decide_eq_false c15) (f3 c5 (gx_some g10) (f3 (gx_some g13) (gx_some g14) (get_some g17)))))) trivial trivial ?_
          clear hh h
          intro h hh
          cases H4
          exact ce hh ⟨kq hh, rfl⟩
         repeat apply TW.seq
         refine dk 50 [1, 2, 4, 5, 11, 13, 14, 16, 21, 22, 23, 38, 39, 40, 96] [] [] [] (f3 hh (decide_eq_false c8) (f3 (decide_eq_false c9) c11 (f3 (decide_eq_true c12) (decide_eq_true c15) (f3 c5 (gx_some g10) (f2 (gx_some g13) (gx_some g14)))))) trivial trivial ?_
         clear hh h
         intro h hh
         cases H4
         exact ce hh ⟨kq hh, rfl⟩
        repeat apply TW.seq
        refine dk 50 [1, 2, 4, 5, 11, 13, 14, 16, 21, 22, 23, 38, 39, 40, 96] [] [] [] (f3 hh (decide_eq_false c8) (f3 (decide_eq_false c9) c11 (f2 c5 (gx_some g10)))) trivial trivial ?_
        clear hh h
        intro h hh
        cases H4
        exact ce hh ⟨kq hh, rfl⟩
       repeat apply TW.seq
       refine dk 50 [1, 2, 4, 5, 11, 13, 14, 16, 21, 22, 23, 38, 39, 40, 96] [] [] [] (f3 hh (decide_eq_false c8) (f2 (decide_eq_true c9) c5)) trivial trivial ?_
       clear hh h
       intro h hh
       cases H4
       exact ce hh ⟨kq hh, rfl⟩
      repeat apply TW.seq
      refine dk 50 [1, 2, 4, 5, 11, 13, 14, 16, 21, 22, 23, 38, 39, 40, 96] [] [] [] (f3 hh (decide_eq_true c8) c5) trivial trivial ?_
      clear hh h
      intro h hh
      cases H4
      exact ce hh ⟨kq hh, rfl⟩
     clear hh h
     rintro h bs ⟨hh, rfl⟩
     rcases isb H3 with ⟨c20, H3⟩ | ⟨c20, H3⟩
     rotate_left
     ·skip
      repeat apply TW.seq
      refine cf (f2 hh c20) ?_
      repeat apply TW.seq
      refine sk ?_
      obtain ⟨g21, H3⟩ := isg H3
      repeat apply TW.seq
      refine rg [] [] [.cells true 3 [lNodes n.nodes, lLinks n.links, lEdges n.edges], .cells false flow.length (l3.map (T.int .i64)), .cells true 2 [ints ((gx l i).links), .int .i64 ((gx l i).amount)], .map ((mset ((gx n.links (gx ((gx l i).links) i2)).frm) true mp).map fun p => ((T.int .i64) p.1, T.bool p.2))] (fun h => h 1 = .int .i64 from_ ∧ h 2 = .int .i64 to_ ∧ h 4 = lStrands l ∧ h 5 = .ptr 0 0 3 ∧ h 11 = .arr 1 1 0 flow.length flow.length flow.length ∧ h 13 = .ptr 2 0 2 ∧ h 14 = .mp 3 ∧ h 16 = .int .i64 (gx ((gx l i).links) i2) ∧ h 21 = lStrands l ∧ h 22 = .int .i64 (l.length : Int) ∧ h 23 = .int .i64 i ∧ h 38 = ints ((gx l i).links) ∧ h 39 = .int .i64 (((gx l i).links).length : Int) ∧ h 40 = .int .i64 i2) (f3 hh c5 (f2 c20 (gx_some g21))) trivial ?_
      clear hh h
      intro h hh
      obtain ⟨g22, H3⟩ := isg H3
      obtain ⟨g23, H3⟩ := isg H3
      repeat apply TW.seq
      refine dk 6 [1, 2, 4, 5, 11, 13, 14, 21, 22, 23, 38, 39, 40] [] [] [] (f3 hh c5 (f3 c20 (get_some g23) (fun f v => @spl_map _ _ f _ v g23))) trivial trivial ?_
      clear hh h
      intro h hh
      repeat apply TW.seq
      refine rk [1, 2, 4, 5, 11, 13, 14, 21, 22, 23, 38, 39, 40] [] (f3 hh c5 c20) ?_
      clear hh h
      intro h hh
      exact rd m hh ⟨(IntKind.i64.wrap (i2 + 1)), (l3.set (gx ((gx l i).links) i2).toNat (IntKind.i64.wrap ((l3.getD (gx ((gx l i).links) i2).toNat default) - ((gx l i).amount)))), (mset ((gx n.links (gx ((gx l i).links) i2)).frm) true mp), H3, kq hh, rfl⟩
     repeat apply TW.seq
     refine ct (f2 hh c20) ?_
     repeat apply TW.seq
     refine rk [10] [] (f3 hh c5 c20) ?_
     clear hh h
     intro h hh
     cases H3
     obtain rfl := sinm H2
     obtain rfl := sinm H1
     obtain rfl := sinl H
     exact rt hh
    clear hh h
    rintro h bs ⟨s_4, rfl, hh, rfl⟩
    replace H2 := sinr H2
    obtain ⟨g24, H2⟩ := isg H2
    obtain ⟨g25, H2⟩ := isg H2
    obtain ⟨g26, H2⟩ := isg H2
    obtain ⟨g27, H2⟩ := isg H2
    repeat apply TW.seq
    refine dk 22 [1, 2, 4, 5, 11, 14, 17, 18, 21, 22, 23] [] [] [] (f3 hh c5 (f3 (gx_some g24) (gx_some g25) (f2 (gx_some g26) (gx_some g27)))) trivial trivial ?_
    clear hh h
    intro h hh
    rcases isp H2 with ⟨c28, H2⟩ | ⟨c28, H2⟩
    rotate_left
    ·skip
     repeat apply TW.seq
     refine rk [1, 2, 4, 5, 11, 21, 22, 23, 152] [] (f3 hh (decide_eq_false c28) c5) ?_
     clear hh h
     intro h hh
     repeat apply TW.seq
     refine cf hh ?_
     repeat apply TW.seq
     refine sk ?_
     cases H2
     exact ce hh ⟨_, rfl, kq hh, rfl⟩
    rcases isp H2 with ⟨c29, H2⟩ | ⟨c29, H2⟩
    rotate_left
    ·skip
     rcases isp H2 with ⟨c30, H2⟩ | ⟨c30, H2⟩
     rotate_left
     ·skip
      repeat apply TW.seq
      refine rk [1, 2, 4, 5, 11, 21, 22, 23, 152] [] (f3 hh (decide_eq_true c28) (f3 (decide_eq_false c29) (decide_eq_false c30) c5)) ?_
      clear hh h
      intro h hh
      rcases isb H2 with ⟨c31, H2⟩ | ⟨c31, H2⟩
      rotate_left
      ·skip
       repeat apply TW.seq
       refine cf (f2 hh c31) ?_
       repeat apply TW.seq
       refine sk ?_
       cases H2
       exact ce hh ⟨_, rfl, kq hh, rfl⟩
      repeat apply TW.seq
      refine ct (f2 hh c31) ?_
      repeat apply TW.seq
      refine rk [10] [] (f3 hh c5 c31) ?_
      clear hh h
      intro h hh
      cases H2
      obtain rfl := sinm H1
      obtain rfl := sinl H
      exact rt hh
     repeat apply TW.seq
     refine rk [1, 2, 4, 5, 11, 21, 22, 23, 152] [] (f3 hh (decide_eq_true c28) (f3 (decide_eq_false c29) (decide_eq_true c30) c5)) ?_
     clear hh h
     intro h hh
     repeat apply TW.seq
     refine ct hh ?_
     repeat apply TW.seq
     refine rk [10] [] (f2 hh c5) ?_
     clear hh h
     intro h hh
     cases H2
     obtain rfl := sinm H1
     obtain rfl := sinl H
     exact rt hh
    repeat apply TW.seq
    refine rk [1, 2, 4, 5, 11, 21, 22, 23, 152] [] (f3 hh (decide_eq_true c28) (f2 (decide_eq_true c29) c5)) ?_
    clear hh h
    intro h hh
    repeat apply TW.seq
    refine ct hh ?_
    repeat apply TW.seq
    refine rk [10] [] (f2 hh c5) ?_
    clear hh h
    intro h hh
    cases H2
    obtain rfl := sinm H1
    obtain rfl := sinl H
    exact rt hh
   repeat apply TW.seq
   refine ct (f2 hh c5) ?_
   repeat apply TW.seq
   refine rk [10] [] (f2 hh c5) ?_
   clear hh h
   intro h hh
   cases H2
   obtain rfl := sinm H1
   obtain rfl := sinl H
   exact rt hh
  clear hh h
  rintro h bs ⟨s_2, rfl, hh, rfl⟩
  replace H1 := sinr H1
  repeat apply TW.seq
  refine rk [1, 2, 4, 5, 11, 21, 22, 23] [] hh ?_
  clear hh h
  intro h hh
  exact rd m hh ⟨(IntKind.i64.wrap (i + 1)), s_2, H1, kq hh, rfl⟩
 clear hh h
 rintro h bs ⟨s_, rfl, hh, rfl⟩
 replace H := sinr H
 rcases isp H with ⟨c32, H⟩ | ⟨c32, H⟩
 rotate_left
 ·skip
  repeat apply TW.seq
  refine rk [10] [] (f2 hh (decide_eq_false c32)) ?_
  clear hh h
  intro h hh
  cases H
  exact rt hh
 obtain ⟨g33, H⟩ := isg H
 obtain ⟨rContainsFunc, e34, H⟩ := bsome H
 repeat apply TW.seq
 refine rkc [10] [] [(.bool rContainsFunc, stL [.cells true 3 [lNodes n.nodes, lLinks n.links, lEdges n.edges], .cells false flow.length (s_.map (T.int .i64))])] (f2 hh (decide_eq_true c32)) ?_ ?_
 ·exact ⟨(by have q := Call0.call (Pure.lend (S := stL [.cells true 3 [lNodes n.nodes, lLinks n.links, lEdges n.edges], .cells false flow.length (s_.map (T.int .i64))]) (args := [.arr 1 1 0 flow.length flow.length flow.length, .fn 45 [] []]) (sslices_ContainsFunc_ok ax hx k s_ (fun y => sflow_Strands_1 k y) rContainsFunc e34 45 [] (by simp only [ids2B, ids2C, idsA, idsB, idsC, idsD, idsE, Bool.and_self]) (fun y w hw => by first | exact sflow_Strands_1_ok ax hx k y w hw | exact (sflow_Strands_1_ok ax hx k y w hw))) (And.intro (lend_map (fun _ => rfl) (by rfl) g33) (And.intro (Or.inl rfl) (trivial))) rfl); exact q), trivial⟩
 clear hh h
 intro h hh
 cases H
 exact rt hh
end Go.Proofs.Ytfalnphlgfoflaa