/- Functions as plain functions, and that the code computes them. -/
import Derived.Test.YtfalnphlgfoflaaRk
namespace Go.Proofs.Ytfalnphlgfoflaa
open Go Go.RowKit
set_option linter.unusedSimpArgs false
set_option linter.unusedVariables false
set_option linter.unusedSectionVars false
set_option maxRecDepth 100000
def sslices_Index_L0 (k : Nat) (s_ : List Int) (v_ : Int) : Nat → Int → Option (Int ⊕ Unit)
 | 0, _ => none
 | m + 1, i => (if i < (s_.length : Int) then (if (0 : Int) ≤ i ∧ i < (s_.length : Int) then (if v_ = (gx s_ i) then some (.inl i) else sslices_Index_L0 k s_ v_ m (IntKind.i64.wrap (i + 1))) else none) else some (.inr ()))
def sslices_Index (k : Nat) (s_ : List Int) (v_ : Int) : Option Int := ((sslices_Index_L0 k s_ v_ k 0 : Option (Int ⊕ Unit)).bind fun o => Sum.elim (fun r => some r) (fun s_2 => some (-1)) o)
set_option maxHeartbeats 8000000 in
theorem sslices_Index_ok (ax : Axs) (hx : Plain ax) (k : Nat) (s_ : List Int) (v_ : Int) (v : Int) (H : sslices_Index k s_ v_ = some v) : Pure Try.prog (EE ax) [] 64 [ints s_, .int .i64 v_] (.int .i64 v) := by
 rw [sslices_Index] at H
 refine en [.tmp 4] 19 [0, 1] (hx.no _ (by decide)) (fn64 ax) ?_
 intro h hh
 repeat apply TW.seq
 refine rk [0, 1] [] hh ?_
 clear hh h
 intro h hh
 repeat apply TW.seq
 refine rk [0, 1, 7, 8] [] hh ?_
 clear hh h
 intro h hh
 obtain ⟨o, H1, H⟩ := bsome H
 repeat apply TW.seq
 refine cu [] 0 (fun h bs => ∃ s_2 : Unit, o = .inr s_2 ∧ (True) ∧ bs = []) ?_ ?_
 ·skip
  repeat apply TW.seq
  apply TW.block
  repeat apply TW.seq
  refine TW.loopT [0, 1, 7, 8] (fun m h bs => ∃ (i : Int), sslices_Index_L0 k s_ v_ m i = some o ∧ (h 0 = ints s_ ∧ h 1 = .int .i64 v_ ∧ h 7 = .int .i64 (s_.length : Int) ∧ h 8 = .int .i64 i) ∧ bs = []) ?_ k _ _ ?_
  rotate_left
  ·exact ⟨0, H1, kq hh, rfl⟩
  clear hh h H1
  rintro m h bs ⟨i, H1, hh, rfl⟩
  rcases m with _ | m
  ·rw [sslices_Index_L0] at H1; cases H1
  rw [sslices_Index_L0] at H1
  repeat apply TW.seq
  refine rk [0, 1, 7, 8, 9] [] hh ?_
  clear hh h
  intro h hh
  rcases isp H1 with ⟨c1, H1⟩ | ⟨c1, H1⟩
  rotate_left
  ·skip
   repeat apply TW.seq
   refine cf (f2 hh (decide_eq_false c1)) ?_
   refine xk ?_
   cases H1
   exact ce hh ⟨_, rfl, kq hh, rfl⟩
  repeat apply TW.seq
  refine ct (f2 hh (decide_eq_true c1)) ?_
  repeat apply TW.seq
  refine sk ?_
  repeat apply TW.seq
  apply TW.block
  repeat apply TW.seq
  refine rk [0, 1, 5, 7, 8] [] hh ?_
  clear hh h
  intro h hh
  obtain ⟨g2, H1⟩ := isg H1
  repeat apply TW.seq
  refine rk [0, 1, 5, 7, 8, 16] [] (f2 hh (gx_some g2)) ?_
  clear hh h
  intro h hh
  rcases isp H1 with ⟨c3, H1⟩ | ⟨c3, H1⟩
  rotate_left
  ·skip
   repeat apply TW.seq
   refine cf (f2 hh (decide_eq_false c3)) ?_
   repeat apply TW.seq
   refine sk ?_
   repeat apply TW.seq
   refine rk [0, 1, 7, 8] [] hh ?_
   clear hh h
   intro h hh
   exact rd m hh ⟨(IntKind.i64.wrap (i + 1)), H1, kq hh, rfl⟩
  repeat apply TW.seq
  refine ct (f2 hh (decide_eq_true c3)) ?_
  repeat apply TW.seq
  refine rk [4] [] hh ?_
  clear hh h
  intro h hh
  cases H1
  obtain rfl := sinl H
  exact rt hh
 clear hh h
 rintro h bs ⟨s_2, rfl, hh, rfl⟩
 replace H := sinr H
 repeat apply TW.seq
 refine rk [4] [] hh ?_
 clear hh h
 intro h hh
 cases H
 exact rt hh
def sslices_Contains (k : Nat) (s_ : List Int) (v_ : Int) : Option Bool := ((sslices_Index k s_ v_).bind fun rIndex => some (decide (0 ≤ rIndex)))
set_option maxHeartbeats 8000000 in
theorem sslices_Contains_ok (ax : Axs) (hx : Plain ax) (k : Nat) (s_ : List Int) (v_ : Int) (v : Bool) (H : sslices_Contains k s_ v_ = some v) : Pure Try.prog (EE ax) [] 40 [ints s_, .int .i64 v_] (.bool v) := by
 rw [sslices_Contains] at H
 refine en [.tmp 4] 9 [0, 1] (hx.no _ (by decide)) (fn40 ax) ?_
 intro h hh
 repeat apply TW.seq
 refine rk [0, 1] [] hh ?_
 clear hh h
 intro h hh
 obtain ⟨rIndex, e1, H⟩ := bsome H
 repeat apply TW.seq
 refine rkc [4] [] [(.int .i64 rIndex, stL [])] hh ?_ ?_
 ·exact ⟨Call0.call ((sslices_Index_ok ax hx k s_ v_ rIndex e1 ).call _), trivial⟩
 clear hh h
 intro h hh
 cases H
 exact rt hh
def sslices_IndexFunc_L0 (k : Nat) (s_ : List Int) (f_ : Int → Option Bool) : Nat → Int → Option (Int ⊕ Unit)
 | 0, _ => none
 | m + 1, i => (if i < (s_.length : Int) then (if (0 : Int) ≤ i ∧ i < (s_.length : Int) then ((f_ (gx s_ i)).bind fun r => (if r = true then some (.inl i) else sslices_IndexFunc_L0 k s_ f_ m (IntKind.i64.wrap (i + 1)))) else none) else some (.inr ()))
def sslices_IndexFunc (k : Nat) (s_ : List Int) (f_ : Int → Option Bool) : Option Int := ((sslices_IndexFunc_L0 k s_ f_ k 0 : Option (Int ⊕ Unit)).bind fun o => Sum.elim (fun r => some r) (fun s_2 => some (-1)) o)
set_option maxHeartbeats 8000000 in
theorem sslices_IndexFunc_ok (ax : Axs) (hx : Plain ax) (k : Nat) (s_ : List Int) (f_ : Int → Option Bool) (v : Int) (H : sslices_IndexFunc k s_ f_ = some v) (f__f : Nat) (f__c : List T) (f__i : T.idsL 0 f__c = true) (f__h : ∀ (y0 : Int) (w : Bool), f_ y0 = some w → Pure Try.prog (EE ax) [] f__f ([] ++ [.int .i64 y0] ++ f__c) (.bool w)) : Pure Try.prog (EE ax) [] 54 [ints s_, .fn f__f [] f__c] (.int .i64 v) := by
 rw [sslices_IndexFunc] at H
 refine en (ha := by simp only [ids2B, ids2C, idsA, idsB, idsC, idsD, idsE, f__i, Bool.and_self]) [.tmp 4] 19 [0, 1] (hx.no _ (by decide)) (fn54 ax) ?_
 intro h hh
 repeat apply TW.seq
 refine rk [0, 1] [] hh ?_
 clear hh h
 intro h hh
 repeat apply TW.seq
 refine rk [0, 1, 7, 8] [] hh ?_
 clear hh h
 intro h hh
 obtain ⟨o, H1, H⟩ := bsome H
 repeat apply TW.seq
 refine cu [] 0 (fun h bs => ∃ s_2 : Unit, o = .inr s_2 ∧ (True) ∧ bs = []) ?_ ?_
 ·skip
  repeat apply TW.seq
  apply TW.block
  repeat apply TW.seq
  refine TW.loopT [0, 1, 7, 8] (fun m h bs => ∃ (i : Int), sslices_IndexFunc_L0 k s_ f_ m i = some o ∧ (h 0 = ints s_ ∧ h 1 = .fn f__f [] f__c ∧ h 7 = .int .i64 (s_.length : Int) ∧ h 8 = .int .i64 i) ∧ bs = []) ?_ k _ _ ?_
  rotate_left
  ·exact ⟨0, H1, kq hh, rfl⟩
  clear hh h H1
  rintro m h bs ⟨i, H1, hh, rfl⟩
  rcases m with _ | m
  ·rw [sslices_IndexFunc_L0] at H1; cases H1
  rw [sslices_IndexFunc_L0] at H1
  repeat apply TW.seq
  refine rk [0, 1, 7, 8, 9] [] hh ?_
  clear hh h
  intro h hh
  rcases isp H1 with ⟨c1, H1⟩ | ⟨c1, H1⟩
  rotate_left
  ·skip
   repeat apply TW.seq
   refine cf (f2 hh (decide_eq_false c1)) ?_
   refine xk ?_
   cases H1
   exact ce (f2 hh ((fun m => idsL_more (Nat.zero_le m) f__i))) ⟨_, rfl, kq hh, rfl⟩
  repeat apply TW.seq
  refine ct (f2 hh (decide_eq_true c1)) ?_
  repeat apply TW.seq
  refine sk ?_
  repeat apply TW.seq
  apply TW.block
  repeat apply TW.seq
  refine rk [0, 1, 5, 7, 8] [] hh ?_
  clear hh h
  intro h hh
  obtain ⟨g2, H1⟩ := isg H1
  obtain ⟨r, e3, H1⟩ := bsome H1
  repeat apply TW.seq
  refine rkc [0, 1, 5, 7, 8, 16] [] [(.bool r, stL [])] (f2 hh (gx_some g2)) ?_ ?_
  ·exact ⟨Call0.call ((f__h (gx s_ i) r e3).call _), trivial⟩
  clear hh h
  intro h hh
  rcases isb H1 with ⟨c4, H1⟩ | ⟨c4, H1⟩
  rotate_left
  ·skip
   repeat apply TW.seq
   refine cf (f2 hh c4) ?_
   repeat apply TW.seq
   refine sk ?_
   repeat apply TW.seq
   refine rk [0, 1, 7, 8] [] (f2 hh c4) ?_
   clear hh h
   intro h hh
   exact rd m (f2 hh ((fun m => idsL_more (Nat.zero_le m) f__i))) ⟨(IntKind.i64.wrap (i + 1)), H1, kq hh, rfl⟩
  repeat apply TW.seq
  refine ct (f2 hh c4) ?_
  repeat apply TW.seq
  refine rk [4] [] (f2 hh c4) ?_
  clear hh h
  intro h hh
  cases H1
  obtain rfl := sinl H
  exact rt hh
 clear hh h
 rintro h bs ⟨s_2, rfl, hh, rfl⟩
 replace H := sinr H
 repeat apply TW.seq
 refine rk [4] [] hh ?_
 clear hh h
 intro h hh
 cases H
 exact rt hh
def sslices_ContainsFunc (k : Nat) (s_ : List Int) (f_ : Int → Option Bool) : Option Bool := ((sslices_IndexFunc k s_ f_).bind fun rIndexFunc => some (decide (0 ≤ rIndexFunc)))
set_option maxHeartbeats 8000000 in
theorem sslices_ContainsFunc_ok (ax : Axs) (hx : Plain ax) (k : Nat) (s_ : List Int) (f_ : Int → Option Bool) (v : Bool) (H : sslices_ContainsFunc k s_ f_ = some v) (f__f : Nat) (f__c : List T) (f__i : T.idsL 0 f__c = true) (f__h : ∀ (y0 : Int) (w : Bool), f_ y0 = some w → Pure Try.prog (EE ax) [] f__f ([] ++ [.int .i64 y0] ++ f__c) (.bool w)) : Pure Try.prog (EE ax) [] 36 [ints s_, .fn f__f [] f__c] (.bool v) := by
 rw [sslices_ContainsFunc] at H
 refine en (ha := by simp only [ids2B, ids2C, idsA, idsB, idsC, idsD, idsE, f__i, Bool.and_self]) [.tmp 4] 9 [0, 1] (hx.no _ (by decide)) (fn36 ax) ?_
 intro h hh
 repeat apply TW.seq
 refine rk [0, 1] [] hh ?_
 clear hh h
 intro h hh
 obtain ⟨rIndexFunc, e1, H⟩ := bsome H
 repeat apply TW.seq
 refine rkc [4] [] [(.int .i64 rIndexFunc, stL [])] hh ?_ ?_
 ·exact ⟨Call0.call ((sslices_IndexFunc_ok ax hx k s_ f_ rIndexFunc e1 f__f f__c f__i f__h).call _), trivial⟩
 clear hh h
 intro h hh
 cases H
 exact rt hh
def sgraph_Up (k : Nat) (n : Net) (f_ : Failure) (link : Int) : Option Bool := (if (0 : Int) ≤ link ∧ link < (n.links.length : Int) then (if ((gx n.links link).frm) ≠ f_.node then (if ((gx n.links link).to) ≠ f_.node then ((sslices_Contains k f_.links link).bind fun rContains => some (!rContains)) else some false) else some false) else none)
set_option maxHeartbeats 8000000 in
theorem sgraph_Up_ok (ax : Axs) (hx : Plain ax) (k : Nat) (n : Net) (f_ : Failure) (link : Int) (v : Bool) (H : sgraph_Up k n f_ link = some v) : Pure Try.prog (EE ax) [] 35 [eNet n, eFail f_, .int .i64 link] (.bool v) := by
 rw [sgraph_Up] at H
 refine en [.tmp 6] 32 [0, 1, 2] (hx.no _ (by decide)) (fn35 ax) ?_
 intro h hh
 repeat apply TW.seq
 refine rk [2, 3, 4] [] hh ?_
 clear hh h
 intro h hh
 obtain ⟨g1, H⟩ := isg H
 repeat apply TW.seq
 refine rk [2, 4, 7] [] (f2 hh (gx_some g1)) ?_
 clear hh h
 intro h hh
 rcases isp H with ⟨c2, H⟩ | ⟨c2, H⟩
 rotate_left
 ·skip
  repeat apply TW.seq
  refine rk [6] [] (f2 hh (decide_eq_false c2)) ?_
  clear hh h
  intro h hh
  cases H
  exact rt hh
 rcases isp H with ⟨c3, H⟩ | ⟨c3, H⟩
 rotate_left
 ·skip
  repeat apply TW.seq
  refine rk [6] [] (f3 hh (decide_eq_true c2) (decide_eq_false c3)) ?_
  clear hh h
  intro h hh
  cases H
  exact rt hh
 obtain ⟨rContains, e4, H⟩ := bsome H
 repeat apply TW.seq
 refine rkc [6] [] [(.bool rContains, stL [.cells true 3 [lNodes n.nodes, lLinks n.links, lEdges n.edges], .cells true 2 [ints f_.links, .int .i64 f_.node], .cells true 3 [.int .i64 ((gx n.links link).frm), .int .i64 ((gx n.links link).to), .int .i64 ((gx n.links link).cap)]])] (f3 hh (decide_eq_true c2) (decide_eq_true c3)) ?_ ?_
 ·exact ⟨Call0.call ((sslices_Contains_ok ax hx k f_.links link rContains e4 ).call _), trivial⟩
 clear hh h
 intro h hh
 cases H
 exact rt hh
def sr09_isNode (k : Nat) (n : Net) (k_ : Int) : Option Bool := (if 0 ≤ k_ then some (decide (k_ < (n.nodes.length : Int))) else some false)
set_option maxHeartbeats 8000000 in
theorem sr09_isNode_ok (ax : Axs) (hx : Plain ax) (k : Nat) (n : Net) (k_ : Int) (v : Bool) (H : sr09_isNode k n k_ = some v) : Pure Try.prog (EE ax) [] 63 [eNet n, .int .i64 k_] (.bool v) := by
 rw [sr09_isNode] at H
 refine en [.tmp 4] 14 [0, 1] (hx.no _ (by decide)) (fn63 ax) ?_
 intro h hh
 repeat apply TW.seq
 refine rk [1, 2] [] hh ?_
 clear hh h
 intro h hh
 rcases isp H with ⟨c1, H⟩ | ⟨c1, H⟩
 rotate_left
 ·skip
  repeat apply TW.seq
  refine rk [4] [] (f2 hh (decide_eq_false c1)) ?_
  clear hh h
  intro h hh
  cases H
  exact rt hh
 repeat apply TW.seq
 refine rk [4] [] (f2 hh (decide_eq_true c1)) ?_
 clear hh h
 intro h hh
 cases H
 exact rt hh
def sr09_Few (k : Nat) (n : Net) (nodes : Int) (links : Int) (edges : Int) : Option Bool := (if (n.nodes.length : Int) ≤ nodes then (if (n.links.length : Int) ≤ links then some (decide ((n.edges.length : Int) ≤ edges)) else some false) else some false)
set_option maxHeartbeats 8000000 in
theorem sr09_Few_ok (ax : Axs) (hx : Plain ax) (k : Nat) (n : Net) (nodes : Int) (links : Int) (edges : Int) (v : Bool) (H : sr09_Few k n nodes links edges = some v) : Pure Try.prog (EE ax) [] 31 [eNet n, .int .i64 nodes, .int .i64 links, .int .i64 edges] (.bool v) := by
 rw [sr09_Few] at H
 refine en [.tmp 8] 28 [0, 1, 2, 3] (hx.no _ (by decide)) (fn31 ax) ?_
 intro h hh
 repeat apply TW.seq
 refine rk [1, 2, 3, 4] [] hh ?_
 clear hh h
 intro h hh
 rcases isp H with ⟨c1, H⟩ | ⟨c1, H⟩
 rotate_left
 ·skip
  repeat apply TW.seq
  refine rk [8] [] (f2 hh (decide_eq_false c1)) ?_
  clear hh h
  intro h hh
  cases H
  exact rt hh
 rcases isp H with ⟨c2, H⟩ | ⟨c2, H⟩
 rotate_left
 ·skip
  repeat apply TW.seq
  refine rk [8] [] (f3 hh (decide_eq_true c1) (decide_eq_false c2)) ?_
  clear hh h
  intro h hh
  cases H
  exact rt hh
 repeat apply TW.seq
 refine rk [8] [] (f3 hh (decide_eq_true c1) (decide_eq_true c2)) ?_
 clear hh h
 intro h hh
 cases H
 exact rt hh
def sr08_Name_L0 (k : Nat) (s_ : ByteArray) : Nat → Int → Option (Bool ⊕ Unit)
 | 0, _ => none
 | m + 1, i => (if i < (s_.size : Int) then (((if (0 : Int) ≤ i ∧ i < (s_.size : Int) then (if 97 ≤ ((bx s_ i).toNat : Int) then some (decide (((bx s_ i).toNat : Int) ≤ 122)) else some false) else none) : Option Bool).bind fun s_3 => (((if (0 : Int) ≤ i ∧ i < (s_.size : Int) then (if 48 ≤ ((bx s_ i).toNat : Int) then (if ((bx s_ i).toNat : Int) ≤ 57 then some true else some (decide (((bx s_ i).toNat : Int) = 95))) else some (decide (((bx s_ i).toNat : Int) = 95))) else none) : Option Bool).bind fun s_4 => (if s_3 = true then sr08_Name_L0 k s_ m (IntKind.i64.wrap (i + 1)) else (if s_4 = true then (if i = 0 then some (.inl false) else sr08_Name_L0 k s_ m (IntKind.i64.wrap (i + 1))) else some (.inl false))))) else some (.inr ()))
def sr08_Name (k : Nat) (s_ : ByteArray) : Option Bool := ((sr08_Name_L0 k s_ k 0 : Option (Bool ⊕ Unit)).bind fun o => Sum.elim (fun r => some r) (fun s_2 => (if 1 ≤ (s_.size : Int) then some (decide ((s_.size : Int) ≤ 24)) else some false)) o)
set_option maxHeartbeats 8000000 in
theorem sr08_Name_ok (ax : Axs) (hx : Plain ax) (k : Nat) (s_ : ByteArray) (v : Bool) (H : sr08_Name k s_ = some v) : Pure Try.prog (EE ax) [] 71 [.str s_] (.bool v) := by
 rw [sr08_Name] at H
 refine en [.tmp 2] 56 [0] (hx.no _ (by decide)) (fn71 ax) ?_
 intro h hh
 repeat apply TW.seq
 refine rk [0] [] hh ?_
 clear hh h
 intro h hh
 repeat apply TW.seq
 refine rk [0, 3] [] hh ?_
 clear hh h
 intro h hh
 obtain ⟨o, H1, H⟩ := bsome H
 repeat apply TW.seq
 refine cu [0] 0 (fun h bs => ∃ s_2 : Unit, o = .inr s_2 ∧ (h 0 = .str s_) ∧ bs = []) ?_ ?_
 ·skip
  repeat apply TW.seq
  apply TW.block
  repeat apply TW.seq
  refine TW.loopT [0, 3] (fun m h bs => ∃ (i : Int), sr08_Name_L0 k s_ m i = some o ∧ (h 0 = .str s_ ∧ h 3 = .int .i64 i) ∧ bs = []) ?_ k _ _ ?_
  rotate_left
  ·exact ⟨0, H1, kq hh, rfl⟩
  clear hh h H1
  rintro m h bs ⟨i, H1, hh, rfl⟩
  rcases m with _ | m
  ·rw [sr08_Name_L0] at H1; cases H1
  rw [sr08_Name_L0] at H1
  repeat apply TW.seq
  refine rk [0, 3, 9] [] hh ?_
  clear hh h
  intro h hh
  rcases isp H1 with ⟨c1, H1⟩ | ⟨c1, H1⟩
  rotate_left
  ·skip
   repeat apply TW.seq
   refine cf (f2 hh (decide_eq_false c1)) ?_
   refine xk ?_
   cases H1
   exact ce hh ⟨_, rfl, kq hh, rfl⟩
  repeat apply TW.seq
  refine ct (f2 hh (decide_eq_true c1)) ?_
  repeat apply TW.seq
  refine sk ?_
  repeat apply TW.seq
  apply TW.block
  obtain ⟨s_3, H2, H1⟩ := bsome H1
  repeat apply TW.seq
  refine cu [0, 3, 4] 0 (fun h bs => (h 0 = .str s_ ∧ h 3 = .int .i64 i ∧ h 4 = .bool s_3) ∧ bs = []) ?_ ?_
  ·skip
   obtain ⟨g2, H2⟩ := isg H2
   rcases isp H2 with ⟨c3, H2⟩ | ⟨c3, H2⟩
   rotate_left
   ·skip
    repeat apply TW.seq
    refine rk [0, 3, 4] [] (f3 hh (decide_eq_false c3) (bx_some g2)) ?_
    clear hh h
    intro h hh
    cases H2
    exact ce hh ⟨kq hh, rfl⟩
   repeat apply TW.seq
   refine rk [0, 3, 4] [] (f3 hh (decide_eq_true c3) (bx_some g2)) ?_
   clear hh h
   intro h hh
   cases H2
   exact ce hh ⟨kq hh, rfl⟩
  clear hh h
  rintro h bs ⟨hh, rfl⟩
  obtain ⟨s_4, H2, H1⟩ := bsome H1
  repeat apply TW.seq
  refine cu [0, 3, 4, 5] 0 (fun h bs => (h 0 = .str s_ ∧ h 3 = .int .i64 i ∧ h 4 = .bool s_3 ∧ h 5 = .bool s_4) ∧ bs = []) ?_ ?_
  ·skip
   obtain ⟨g4, H2⟩ := isg H2
   rcases isp H2 with ⟨c5, H2⟩ | ⟨c5, H2⟩
   rotate_left
   ·skip
    repeat apply TW.seq
    refine rk [0, 3, 4, 5] [] (f3 hh (decide_eq_false c5) (bx_some g4)) ?_
    clear hh h
    intro h hh
    cases H2
    exact ce hh ⟨kq hh, rfl⟩
   rcases isp H2 with ⟨c6, H2⟩ | ⟨c6, H2⟩
   rotate_left
   ·skip
    repeat apply TW.seq
    refine rk [0, 3, 4, 5] [] (f3 hh (decide_eq_true c5) (f2 (decide_eq_false c6) (bx_some g4))) ?_
    clear hh h
    intro h hh
    cases H2
    exact ce hh ⟨kq hh, rfl⟩
   repeat apply TW.seq
   refine rk [0, 3, 4, 5] [] (f3 hh (decide_eq_true c5) (f2 (decide_eq_true c6) (bx_some g4))) ?_
   clear hh h
   intro h hh
   cases H2
   exact ce hh ⟨kq hh, rfl⟩
  clear hh h
  rintro h bs ⟨hh, rfl⟩
  rcases isb H1 with ⟨c7, H1⟩ | ⟨c7, H1⟩
  rotate_left
  ·skip
   rcases isb H1 with ⟨c8, H1⟩ | ⟨c8, H1⟩
   rotate_left
   ·skip
    repeat apply TW.seq
    refine rk [0, 3, 47] [] (f3 hh c7 c8) ?_
    clear hh h
    intro h hh
    repeat apply TW.seq
    refine ct hh ?_
    repeat apply TW.seq
    refine rk [2] [] (f3 hh c7 c8) ?_
    clear hh h
    intro h hh
    cases H1
    obtain rfl := sinl H
    exact rt hh
   repeat apply TW.seq
   refine rk [0, 3, 47] [] (f3 hh c7 c8) ?_
   clear hh h
   intro h hh
   rcases isp H1 with ⟨c9, H1⟩ | ⟨c9, H1⟩
   rotate_left
   ·skip
    repeat apply TW.seq
    refine cf (f2 hh (decide_eq_false c9)) ?_
    repeat apply TW.seq
    refine sk ?_
    repeat apply TW.seq
    refine rk [0, 3] [] (f3 hh c7 c8) ?_
    clear hh h
    intro h hh
    exact rd m hh ⟨(IntKind.i64.wrap (i + 1)), H1, kq hh, rfl⟩
   repeat apply TW.seq
   refine ct (f2 hh (decide_eq_true c9)) ?_
   repeat apply TW.seq
   refine rk [2] [] (f3 hh c7 c8) ?_
   clear hh h
   intro h hh
   cases H1
   obtain rfl := sinl H
   exact rt hh
  repeat apply TW.seq
  refine rk [0, 3, 47] [] (f2 hh c7) ?_
  clear hh h
  intro h hh
  repeat apply TW.seq
  refine cf hh ?_
  repeat apply TW.seq
  refine sk ?_
  repeat apply TW.seq
  refine rk [0, 3] [] (f2 hh c7) ?_
  clear hh h
  intro h hh
  exact rd m hh ⟨(IntKind.i64.wrap (i + 1)), H1, kq hh, rfl⟩
 clear hh h
 rintro h bs ⟨s_2, rfl, hh, rfl⟩
 replace H := sinr H
 rcases isp H with ⟨c10, H⟩ | ⟨c10, H⟩
 rotate_left
 ·skip
  repeat apply TW.seq
  refine rk [2] [] (f2 hh (decide_eq_false c10)) ?_
  clear hh h
  intro h hh
  cases H
  exact rt hh
 repeat apply TW.seq
 refine rk [2] [] (f2 hh (decide_eq_true c10)) ?_
 clear hh h
 intro h hh
 cases H
 exact rt hh
def sr09_named_L1 (k : Nat) (l : List ByteArray) (i : Int) : Nat → Int → Option (Bool ⊕ Unit)
 | 0, _ => none
 | m + 1, k_ => (if k_ < i then (if (0 : Int) ≤ k_ ∧ k_ < (l.length : Int) then (if (gx l k_) = (gx l i) then some (.inl false) else sr09_named_L1 k l i m (IntKind.i64.wrap (k_ + 1))) else none) else some (.inr ()))
def sr09_named_L0 (k : Nat) (l : List ByteArray) : Nat → Int → Option (Bool ⊕ Unit)
 | 0, _ => none
 | m + 1, i => (if i < (l.length : Int) then (((if (0 : Int) ≤ i ∧ i < (l.length : Int) then ((sr08_Name k (gx l i)).bind fun rName => (if rName = true then ((sr09_named_L1 k l i k 0 : Option (Bool ⊕ Unit)).bind fun o => Sum.elim (fun r => some (.inl r)) (fun s_3 => some (.inr ())) o) else some (.inl false))) else none) : Option (Bool ⊕ Unit)).bind fun o2 => Sum.elim (fun r => some (.inl r)) (fun s_2 => sr09_named_L0 k l m (IntKind.i64.wrap (i + 1))) o2) else some (.inr ()))
def sr09_named (k : Nat) (l : List ByteArray) : Option Bool := ((sr09_named_L0 k l k 0 : Option (Bool ⊕ Unit)).bind fun o3 => Sum.elim (fun r => some r) (fun s_ => some true) o3)
set_option maxHeartbeats 8000000 in
theorem sr09_named_ok (ax : Axs) (hx : Plain ax) (k : Nat) (l : List ByteArray) (v : Bool) (H : sr09_named k l = some v) : Pure Try.prog (EE ax) [] 62 [strs l] (.bool v) := by
 rw [sr09_named] at H
 refine en [.tmp 2] 33 [0] (hx.no _ (by decide)) (fn62 ax) ?_
 intro h hh
 repeat apply TW.seq
 refine rk [0] [] hh ?_
 clear hh h
 intro h hh
 repeat apply TW.seq
 refine rk [0, 3] [] hh ?_
 clear hh h
 intro h hh
 obtain ⟨o3, H1, H⟩ := bsome H
 repeat apply TW.seq
 refine cu [] 0 (fun h bs => ∃ s_ : Unit, o3 = .inr s_ ∧ (True) ∧ bs = []) ?_ ?_
 ·skip
  repeat apply TW.seq
  apply TW.block
  repeat apply TW.seq
  refine TW.loopT [0, 3] (fun m h bs => ∃ (i : Int), sr09_named_L0 k l m i = some o3 ∧ (h 0 = strs l ∧ h 3 = .int .i64 i) ∧ bs = []) ?_ k _ _ ?_
  rotate_left
  ·exact ⟨0, H1, kq hh, rfl⟩
  clear hh h H1
  rintro m h bs ⟨i, H1, hh, rfl⟩
  rcases m with _ | m
  ·rw [sr09_named_L0] at H1; cases H1
  rw [sr09_named_L0] at H1
  repeat apply TW.seq
  refine rk [0, 3, 9] [] hh ?_
  clear hh h
  intro h hh
  rcases isp H1 with ⟨c1, H1⟩ | ⟨c1, H1⟩
  rotate_left
  ·skip
   repeat apply TW.seq
   refine cf (f2 hh (decide_eq_false c1)) ?_
   refine xk ?_
   cases H1
   exact ce hh ⟨_, rfl, kq hh, rfl⟩
  repeat apply TW.seq
  refine ct (f2 hh (decide_eq_true c1)) ?_
  repeat apply TW.seq
  refine sk ?_
  obtain ⟨o2, H2, H1⟩ := bsome H1
  repeat apply TW.seq
  refine cu [0, 3] 0 (fun h bs => ∃ s_2 : Unit, o2 = .inr s_2 ∧ (h 0 = strs l ∧ h 3 = .int .i64 i) ∧ bs = []) ?_ ?_
  ·skip
   repeat apply TW.seq
   apply TW.block
   obtain ⟨g2, H2⟩ := isg H2
   obtain ⟨rName, e3, H2⟩ := bsome H2
   repeat apply TW.seq
   refine rkc [0, 3, 4] [] [(.bool rName, stL [])] (f2 hh (gx_some g2)) ?_ ?_
   ·exact ⟨Call0.call ((sr08_Name_ok ax hx k (gx l i) rName e3 ).call _), trivial⟩
   clear hh h
   intro h hh
   repeat apply TW.seq
   refine rk [0, 3, 18] [] hh ?_
   clear hh h
   intro h hh
   rcases isb H2 with ⟨c4, H2⟩ | ⟨c4, H2⟩
   rotate_left
   ·skip
    repeat apply TW.seq
    refine ct (f2 hh c4) ?_
    repeat apply TW.seq
    refine rk [2] [] (f2 hh c4) ?_
    clear hh h
    intro h hh
    cases H2
    obtain rfl := sinm H1
    obtain rfl := sinl H
    exact rt hh
   repeat apply TW.seq
   refine cf (f2 hh c4) ?_
   repeat apply TW.seq
   refine sk ?_
   repeat apply TW.seq
   refine rk [0, 3, 5] [] (f2 hh c4) ?_
   clear hh h
   intro h hh
   obtain ⟨o, H3, H2⟩ := bsome H2
   repeat apply TW.seq
   refine cu [0, 3] 0 (fun h bs => ∃ s_3 : Unit, o = .inr s_3 ∧ (h 0 = strs l ∧ h 3 = .int .i64 i) ∧ bs = []) ?_ ?_
   ·skip
    repeat apply TW.seq
    apply TW.block
    repeat apply TW.seq
    refine TW.loopT [0, 3, 5] (fun m h bs => ∃ (k_ : Int), sr09_named_L1 k l i m k_ = some o ∧ (h 0 = strs l ∧ h 3 = .int .i64 i ∧ h 5 = .int .i64 k_) ∧ bs = []) ?_ k _ _ ?_
    rotate_left
    ·exact ⟨0, H3, kq hh, rfl⟩
    clear hh h H3
    rintro m h bs ⟨k_, H3, hh, rfl⟩
    rcases m with _ | m
    ·rw [sr09_named_L1] at H3; cases H3
    rw [sr09_named_L1] at H3
    repeat apply TW.seq
    refine rk [0, 3, 5, 21] [] (f2 hh c4) ?_
    clear hh h
    intro h hh
    rcases isp H3 with ⟨c5, H3⟩ | ⟨c5, H3⟩
    rotate_left
    ·skip
     repeat apply TW.seq
     refine cf (f2 hh (decide_eq_false c5)) ?_
     refine xk ?_
     cases H3
     exact ce hh ⟨_, rfl, kq hh, rfl⟩
    repeat apply TW.seq
    refine ct (f2 hh (decide_eq_true c5)) ?_
    repeat apply TW.seq
    refine sk ?_
    repeat apply TW.seq
    apply TW.block
    obtain ⟨g6, H3⟩ := isg H3
    repeat apply TW.seq
    refine dk 8 [0, 3, 5, 32] [] [] [] (f3 hh c4 (f2 (gx_some g6) (gx_some g2))) trivial trivial ?_
    clear hh h
    intro h hh
    rcases isp H3 with ⟨c7, H3⟩ | ⟨c7, H3⟩
    rotate_left
    ·skip
     repeat apply TW.seq
     refine cf (f2 hh (decide_eq_false c7)) ?_
     repeat apply TW.seq
     refine sk ?_
     repeat apply TW.seq
     refine rk [0, 3, 5] [] (f2 hh c4) ?_
     clear hh h
     intro h hh
     exact rd m hh ⟨(IntKind.i64.wrap (k_ + 1)), H3, kq hh, rfl⟩
    repeat apply TW.seq
    refine ct (f2 hh (decide_eq_true c7)) ?_
    repeat apply TW.seq
    refine rk [2] [] (f2 hh c4) ?_
    clear hh h
    intro h hh
    cases H3
    obtain rfl := sinm H2
    obtain rfl := sinm H1
    obtain rfl := sinl H
    exact rt hh
   clear hh h
   rintro h bs ⟨s_3, rfl, hh, rfl⟩
   replace H2 := sinr H2
   cases H2
   exact ce hh ⟨_, rfl, kq hh, rfl⟩
  clear hh h
  rintro h bs ⟨s_2, rfl, hh, rfl⟩
  replace H1 := sinr H1
  repeat apply TW.seq
  refine rk [0, 3] [] hh ?_
  clear hh h
  intro h hh
  exact rd m hh ⟨(IntKind.i64.wrap (i + 1)), H1, kq hh, rfl⟩
 clear hh h
 rintro h bs ⟨s_, rfl, hh, rfl⟩
 replace H := sinr H
 repeat apply TW.seq
 refine rk [2] [] hh ?_
 clear hh h
 intro h hh
 cases H
 exact rt hh
def sr09_Names_L0 (k : Nat) (n : Net) : Nat → Int → (List ByteArray) → Nat → Option (List ByteArray × Nat)
 | 0, _, _, _ => none
 | m + 1, i, l, n2 => (if i < (n.nodes.length : Int) then (if (0 : Int) ≤ i ∧ i < (n.nodes.length : Int) then (if (n2 + 1) * 17 ≤ 1000000000 then sr09_Names_L0 k n m (IntKind.i64.wrap (i + 1)) (l ++ [(gx n.nodes i).name]) (n2 + 1) else none) else none) else some (l, n2))
def sr09_Names_L1 (k : Nat) (n : Net) : Nat → Int → (List ByteArray) → Nat → Option (List ByteArray × Nat)
 | 0, _, _, _ => none
 | m + 1, i2, l2, n3 => (if i2 < (n.edges.length : Int) then (if (0 : Int) ≤ i2 ∧ i2 < (n.edges.length : Int) then (if (n3 + 1) * 17 ≤ 1000000000 then sr09_Names_L1 k n m (IntKind.i64.wrap (i2 + 1)) (l2 ++ [(gx n.edges i2).name]) (n3 + 1) else none) else none) else some (l2, n3))
def sr09_Names (k : Nat) (n : Net) : Option (List ByteArray × List ByteArray) := ((sr09_Names_L0 k n k 0 [] 0 : Option (List ByteArray × Nat)).bind fun s_ => ((sr09_Names_L1 k n k 0 [] 0 : Option (List ByteArray × Nat)).bind fun s_2 => (if s_.1.length = s_.2 then (if s_2.1.length = s_2.2 then some (s_.1, s_2.1) else none) else none)))
set_option maxHeartbeats 8000000 in
theorem sr09_Names_ok (ax : Axs) (hx : Plain ax) (k : Nat) (n : Net) (v : List ByteArray × List ByteArray) (H : sr09_Names k n = some v) : Pure Try.prog (EE ax) [] 61 [eNet n] (tupT [strs v.1, strs v.2]) := by
 rw [sr09_Names] at H
 refine enN [.tmp 2, .tmp 3] 42 [0] (hx.no _ (by decide)) (fn61 ax) ?_
 intro h hh
 repeat apply TW.seq
 refine rk [1] [] hh ?_
 clear hh h
 intro h hh
 repeat apply TW.seq
 refine rk [1, 4] [] hh ?_
 clear hh h
 intro h hh
 refine vk 4 1 [1, 4] hh ?_
 clear hh h
 intro h hh
 repeat apply TW.seq
 refine rk [1, 4, 5] [] hh ?_
 clear hh h
 intro h hh
 refine vk 5 1 [1, 4, 5] hh ?_
 clear hh h
 intro h hh
 repeat apply TW.seq
 refine rk [1, 4, 5, 6] [] hh ?_
 clear hh h
 intro h hh
 obtain ⟨s_, H1, H⟩ := bsome H
 repeat apply TW.seq
 refine cu [1, 4, 5] 3 (fun h bs => (h 1 = .ptr 0 0 3 ∧ h 4 = .arr 1 1 0 s_.2 s_.2 s_.2 ∧ h 5 = .arr 2 1 0 0 0 0) ∧ bs = [.cells true 3 [lNodes n.nodes, lLinks n.links, lEdges n.edges], .cells false s_.2 (s_.1.map T.str), .cells false 0 ([].map T.str)]) ?_ ?_
 ·skip
  repeat apply TW.seq
  apply TW.block
  repeat apply TW.seq
  refine TW.loopT [1, 4, 5, 6] (fun m h bs => ∃ (i : Int) (l : List ByteArray) (n2 : Nat), sr09_Names_L0 k n m i l n2 = some s_ ∧ (h 1 = .ptr 0 0 3 ∧ h 4 = .arr 1 1 0 n2 n2 n2 ∧ h 5 = .arr 2 1 0 0 0 0 ∧ h 6 = .int .i64 i) ∧ bs = [.cells true 3 [lNodes n.nodes, lLinks n.links, lEdges n.edges], .cells false n2 (l.map T.str), .cells false 0 ([].map T.str)]) ?_ k _ _ ?_
  rotate_left
  ·exact ⟨0, [], 0, H1, kq hh, rfl⟩
  clear hh h H1
  rintro m h bs ⟨i, l, n2, H1, hh, rfl⟩
  rcases m with _ | m
  ·rw [sr09_Names_L0] at H1; cases H1
  rw [sr09_Names_L0] at H1
  repeat apply TW.seq
  refine rk [1, 4, 5, 6, 12] [] hh ?_
  clear hh h
  intro h hh
  rcases isp H1 with ⟨c1, H1⟩ | ⟨c1, H1⟩
  rotate_left
  ·skip
   repeat apply TW.seq
   refine cf (f2 hh (decide_eq_false c1)) ?_
   refine xk ?_
   cases H1
   exact ce hh ⟨kq hh, rfl⟩
  repeat apply TW.seq
  refine ct (f2 hh (decide_eq_true c1)) ?_
  repeat apply TW.seq
  refine sk ?_
  repeat apply TW.seq
  apply TW.block
  obtain ⟨g2, H1⟩ := isg H1
  obtain ⟨g3, H1⟩ := isg H1
  repeat apply TW.seq
  refine rg [] [] [.cells true 3 [lNodes n.nodes, lLinks n.links, lEdges n.edges], .cells false (n2 + 1) ((l ++ [(gx n.nodes i).name]).map T.str), .cells false 0 ([].map T.str)] (fun h => h 1 = .ptr 0 0 3 ∧ h 4 = .arr 1 1 0 (n2 + 1) (n2 + 1) (n2 + 1) ∧ h 5 = .arr 2 1 0 0 0 0 ∧ h 6 = .int .i64 i) (f2 hh (gx_some g2)) trivial ?_
  clear hh h
  intro h hh
  repeat apply TW.seq
  refine rk [1, 4, 5, 6] [] hh ?_
  clear hh h
  intro h hh
  exact rd m hh ⟨(IntKind.i64.wrap (i + 1)), (l ++ [(gx n.nodes i).name]), (n2 + 1), H1, kq hh, rfl⟩
 clear hh h
 rintro h bs ⟨hh, rfl⟩
 repeat apply TW.seq
 refine rk [1, 4, 5, 7] [] hh ?_
 clear hh h
 intro h hh
 obtain ⟨s_2, H1, H⟩ := bsome H
 repeat apply TW.seq
 refine cu [4, 5] 3 (fun h bs => (h 4 = .arr 1 1 0 s_.2 s_.2 s_.2 ∧ h 5 = .arr 2 1 0 s_2.2 s_2.2 s_2.2) ∧ bs = [.cells true 3 [lNodes n.nodes, lLinks n.links, lEdges n.edges], .cells false s_.2 (s_.1.map T.str), .cells false s_2.2 (s_2.1.map T.str)]) ?_ ?_
 ·skip
  repeat apply TW.seq
  apply TW.block
  repeat apply TW.seq
  refine TW.loopT [1, 4, 5, 7] (fun m h bs => ∃ (i2 : Int) (l2 : List ByteArray) (n3 : Nat), sr09_Names_L1 k n m i2 l2 n3 = some s_2 ∧ (h 1 = .ptr 0 0 3 ∧ h 4 = .arr 1 1 0 s_.2 s_.2 s_.2 ∧ h 5 = .arr 2 1 0 n3 n3 n3 ∧ h 7 = .int .i64 i2) ∧ bs = [.cells true 3 [lNodes n.nodes, lLinks n.links, lEdges n.edges], .cells false s_.2 (s_.1.map T.str), .cells false n3 (l2.map T.str)]) ?_ k _ _ ?_
  rotate_left
  ·exact ⟨0, [], 0, H1, kq hh, rfl⟩
  clear hh h H1
  rintro m h bs ⟨i2, l2, n3, H1, hh, rfl⟩
  rcases m with _ | m
  ·rw [sr09_Names_L1] at H1; cases H1
  rw [sr09_Names_L1] at H1
  repeat apply TW.seq
  refine rk [1, 4, 5, 7, 28] [] hh ?_
  clear hh h
  intro h hh
  rcases isp H1 with ⟨c4, H1⟩ | ⟨c4, H1⟩
  rotate_left
  ·skip
   repeat apply TW.seq
   refine cf (f2 hh (decide_eq_false c4)) ?_
   refine xk ?_
   cases H1
   exact ce hh ⟨kq hh, rfl⟩
  repeat apply TW.seq
  refine ct (f2 hh (decide_eq_true c4)) ?_
  repeat apply TW.seq
  refine sk ?_
  repeat apply TW.seq
  apply TW.block
  obtain ⟨g5, H1⟩ := isg H1
  obtain ⟨g6, H1⟩ := isg H1
  repeat apply TW.seq
  refine rg [] [] [.cells true 3 [lNodes n.nodes, lLinks n.links, lEdges n.edges], .cells false s_.2 (s_.1.map T.str), .cells false (n3 + 1) ((l2 ++ [(gx n.edges i2).name]).map T.str)] (fun h => h 1 = .ptr 0 0 3 ∧ h 4 = .arr 1 1 0 s_.2 s_.2 s_.2 ∧ h 5 = .arr 2 1 0 (n3 + 1) (n3 + 1) (n3 + 1) ∧ h 7 = .int .i64 i2) (f2 hh (gx_some g5)) trivial ?_
  clear hh h
  intro h hh
  repeat apply TW.seq
  refine rk [1, 4, 5, 7] [] hh ?_
  clear hh h
  intro h hh
  exact rd m hh ⟨(IntKind.i64.wrap (i2 + 1)), (l2 ++ [(gx n.edges i2).name]), (n3 + 1), H1, kq hh, rfl⟩
 clear hh h
 rintro h bs ⟨hh, rfl⟩
 repeat apply TW.seq
 refine rk [2, 3] [] hh ?_
 clear hh h
 intro h hh
 obtain ⟨g7, H⟩ := isg H
 obtain ⟨g8, H⟩ := isg H
 refine TW.freeze 2 (b := 1) (e := 1) (off := 0) (len := s_.2) (cap := s_.2) (M := s_.2) (s_.1.map T.str) (kq hh) (by rfl) (by omega) (by omega) (by rw [List.drop_zero, Nat.mul_one, cells_map (fun _ => rfl), List.take_of_length_le (by rw [List.length_map]; omega)]) (fun t ht => by obtain ⟨x, _, rfl⟩ := List.mem_map.1 ht; first | rfl | (rw [List.length_map]; rfl)) (by rw [List.length_map]; exact g7) (by omega) ?_
 rw [st_set _ _ _ (by simp only [lzA] <;> omega)]
 simp only [scA]
 refine gk [2, 3] hh ?_
 clear hh h
 intro h hh
 refine TW.freeze 3 (b := 2) (e := 1) (off := 0) (len := s_2.2) (cap := s_2.2) (M := s_2.2) (s_2.1.map T.str) (kq hh) (by rfl) (by omega) (by omega) (by rw [List.drop_zero, Nat.mul_one, cells_map (fun _ => rfl), List.take_of_length_le (by rw [List.length_map]; omega)]) (fun t ht => by obtain ⟨x, _, rfl⟩ := List.mem_map.1 ht; first | rfl | (rw [List.length_map]; rfl)) (by rw [List.length_map]; exact g8) (by omega) ?_
 rw [st_set _ _ _ (by simp only [lzA] <;> omega)]
 simp only [scA]
 refine gk [2, 3] hh ?_
 clear hh h
 intro h hh
 cases H
 exact rt hh
def sr09_Check_L0 (k : Nat) (n : Net) : Nat → Int → Option (Int ⊕ Unit)
 | 0, _ => none
 | m + 1, i => (if i < (n.nodes.length : Int) then (if (0 : Int) ≤ i ∧ i < (n.nodes.length : Int) then (if ((gx n.nodes i).rules) < 0 then some (.inl 1) else (if 4000 < ((gx n.nodes i).rules) then some (.inl 1) else (if ((gx n.nodes i).entries) < 0 then some (.inl 1) else (if 100000 < ((gx n.nodes i).entries) then some (.inl 1) else sr09_Check_L0 k n m (IntKind.i64.wrap (i + 1)))))) else none) else some (.inr ()))
def sr09_Check_L1 (k : Nat) (n : Net) : Nat → Int → Option (Int ⊕ Unit)
 | 0, _ => none
 | m + 1, i2 => (if i2 < (n.links.length : Int) then (if (0 : Int) ≤ i2 ∧ i2 < (n.links.length : Int) then ((sr09_isNode k n ((gx n.links i2).frm)).bind fun risNode => (if risNode = true then ((sr09_isNode k n ((gx n.links i2).to)).bind fun risNode2 => (if risNode2 = true then (if ((gx n.links i2).frm) = ((gx n.links i2).to) then some (.inl 1) else (if ((gx n.links i2).cap) < 0 then some (.inl 1) else (if 1048576 < ((gx n.links i2).cap) then some (.inl 1) else sr09_Check_L1 k n m (IntKind.i64.wrap (i2 + 1))))) else some (.inl 1))) else some (.inl 1))) else none) else some (.inr ()))
def sr09_Check_L2 (k : Nat) (n : Net) : Nat → Int → Option (Int ⊕ Unit)
 | 0, _ => none
 | m + 1, i3 => (if i3 < (n.edges.length : Int) then (if (0 : Int) ≤ i3 ∧ i3 < (n.edges.length : Int) then ((sr09_isNode k n ((gx n.edges i3).node)).bind fun risNode3 => (if risNode3 = true then sr09_Check_L2 k n m (IntKind.i64.wrap (i3 + 1)) else some (.inl 1))) else none) else some (.inr ()))
def sr09_Check (k : Nat) (n : Net) : Option Int := (((if 200 < (n.nodes.length : Int) then some true else (if 2000 < (n.links.length : Int) then some true else some (decide (400 < (n.edges.length : Int))))) : Option Bool).bind fun s_ => (if s_ = true then some 2 else ((sr09_Names k n).bind fun rNames => ((sr09_named k rNames.1).bind fun rnamed => ((sr09_named k rNames.2).bind fun rnamed2 => (((if rnamed = true then some (!rnamed2) else some true) : Option Bool).bind fun s_2 => (if s_2 = true then some 4 else ((sr09_Check_L0 k n k 0 : Option (Int ⊕ Unit)).bind fun o3 => Sum.elim (fun r => some r) (fun s_3 => ((sr09_Check_L1 k n k 0 : Option (Int ⊕ Unit)).bind fun o2 => Sum.elim (fun r => some r) (fun s_4 => ((sr09_Check_L2 k n k 0 : Option (Int ⊕ Unit)).bind fun o => Sum.elim (fun r => some r) (fun s_5 => some 0) o)) o2)) o3))))))))
set_option maxHeartbeats 8000000 in
theorem sr09_Check_ok (ax : Axs) (hx : Plain ax) (k : Nat) (n : Net) (v : Int) (H : sr09_Check k n = some v) : Pure Try.prog (EE ax) [] 32 [eNet n] (.int .i64 v) := by
 rw [sr09_Check] at H
 refine en [.tmp 2] 130 [0] (hx.no _ (by decide)) (fn32 ax) ?_
 intro h hh
 repeat apply TW.seq
 refine rk [1] [] hh ?_
 clear hh h
 intro h hh
 obtain ⟨s_, H1, H⟩ := bsome H
 repeat apply TW.seq
 refine cu [1, 27] 1 (fun h bs => (h 1 = .ptr 0 0 3 ∧ h 27 = .bool s_) ∧ bs = [.cells true 3 [lNodes n.nodes, lLinks n.links, lEdges n.edges]]) ?_ ?_
 ·skip
  rcases isp H1 with ⟨c1, H1⟩ | ⟨c1, H1⟩
  rotate_left
  ·skip
   rcases isp H1 with ⟨c2, H1⟩ | ⟨c2, H1⟩
   rotate_left
   ·skip
    repeat apply TW.seq
    refine rk [1, 27] [] (f3 hh (decide_eq_false c1) (decide_eq_false c2)) ?_
    clear hh h
    intro h hh
    cases H1
    exact ce hh ⟨kq hh, rfl⟩
   repeat apply TW.seq
   refine rk [1, 27] [] (f3 hh (decide_eq_false c1) (decide_eq_true c2)) ?_
   clear hh h
   intro h hh
   cases H1
   exact ce hh ⟨kq hh, rfl⟩
  repeat apply TW.seq
  refine rk [1, 27] [] (f2 hh (decide_eq_true c1)) ?_
  clear hh h
  intro h hh
  cases H1
  exact ce hh ⟨kq hh, rfl⟩
 clear hh h
 rintro h bs ⟨hh, rfl⟩
 rcases isb H with ⟨c3, H⟩ | ⟨c3, H⟩
 rotate_left
 ·skip
  repeat apply TW.seq
  refine cf (f2 hh c3) ?_
  repeat apply TW.seq
  refine sk ?_
  obtain ⟨rNames, e4, H⟩ := bsome H
  repeat apply TW.seq
  refine rkc [1, 3, 4] [] [(.tup [strs rNames.1, strs rNames.2], stL [.cells true 3 [lNodes n.nodes, lLinks n.links, lEdges n.edges]])] (f2 hh c3) ?_ ?_
  ·exact ⟨Call0.call (Pure.clr (sr09_Names_ok ax hx k n rNames e4 ) (by first | rfl | simp only [c3])), trivial⟩
  clear hh h
  intro h hh
  obtain ⟨rnamed, e5, H⟩ := bsome H
  repeat apply TW.seq
  refine rkc [1, 4, 5] [] [(.bool rnamed, stL [.cells true 3 [lNodes n.nodes, lLinks n.links, lEdges n.edges]])] (f2 hh c3) ?_ ?_
  ·exact ⟨Call0.call (Pure.clr (sr09_named_ok ax hx k rNames.1 rnamed e5 ) (by first | rfl | simp only [c3])), trivial⟩
  clear hh h
  intro h hh
  obtain ⟨rnamed2, e6, H⟩ := bsome H
  repeat apply TW.seq
  refine rkc [1, 5, 6] [] [(.bool rnamed2, stL [.cells true 3 [lNodes n.nodes, lLinks n.links, lEdges n.edges]])] (f2 hh c3) ?_ ?_
  ·exact ⟨Call0.call (Pure.clr (sr09_named_ok ax hx k rNames.2 rnamed2 e6 ) (by first | rfl | simp only [c3])), trivial⟩
  clear hh h
  intro h hh
  obtain ⟨s_2, H1, H⟩ := bsome H
  repeat apply TW.seq
  refine cu [1, 42] 1 (fun h bs => (h 1 = .ptr 0 0 3 ∧ h 42 = .bool s_2) ∧ bs = [.cells true 3 [lNodes n.nodes, lLinks n.links, lEdges n.edges]]) ?_ ?_
  ·skip
   rcases isb H1 with ⟨c7, H1⟩ | ⟨c7, H1⟩
   rotate_left
   ·skip
    repeat apply TW.seq
    refine rk [1, 42] [] (f3 hh c7 c3) ?_
    clear hh h
    intro h hh
    cases H1
    exact ce hh ⟨kq hh, rfl⟩
   repeat apply TW.seq
   refine rk [1, 42] [] (f3 hh c7 c3) ?_
   clear hh h
   intro h hh
   cases H1
   exact ce hh ⟨kq hh, rfl⟩
  clear hh h
  rintro h bs ⟨hh, rfl⟩
  rcases isb H with ⟨c8, H⟩ | ⟨c8, H⟩
  rotate_left
  ·skip
   repeat apply TW.seq
   refine cf (f2 hh c8) ?_
   repeat apply TW.seq
   refine sk ?_
   repeat apply TW.seq
   refine rk [1, 7] [] (f3 hh c3 c8) ?_
   clear hh h
   intro h hh
   obtain ⟨o3, H1, H⟩ := bsome H
   repeat apply TW.seq
   refine cu [1] 1 (fun h bs => ∃ s_3 : Unit, o3 = .inr s_3 ∧ (h 1 = .ptr 0 0 3) ∧ bs = [.cells true 3 [lNodes n.nodes, lLinks n.links, lEdges n.edges]]) ?_ ?_
   ·skip
    repeat apply TW.seq
    apply TW.block
    repeat apply TW.seq
    refine TW.loopT [1, 7] (fun m h bs => ∃ (i : Int), sr09_Check_L0 k n m i = some o3 ∧ (h 1 = .ptr 0 0 3 ∧ h 7 = .int .i64 i) ∧ bs = [.cells true 3 [lNodes n.nodes, lLinks n.links, lEdges n.edges]]) ?_ k _ _ ?_
    rotate_left
    ·exact ⟨0, H1, kq hh, rfl⟩
    clear hh h H1
    rintro m h bs ⟨i, H1, hh, rfl⟩
    rcases m with _ | m
    ·rw [sr09_Check_L0] at H1; cases H1
    rw [sr09_Check_L0] at H1
    repeat apply TW.seq
    refine rk [1, 7, 47] [] (f3 hh c3 c8) ?_
    clear hh h
    intro h hh
    rcases isp H1 with ⟨c9, H1⟩ | ⟨c9, H1⟩
    rotate_left
    ·skip
     repeat apply TW.seq
     refine cf (f2 hh (decide_eq_false c9)) ?_
     refine xk ?_
     cases H1
     exact ce hh ⟨_, rfl, kq hh, rfl⟩
    repeat apply TW.seq
    refine ct (f2 hh (decide_eq_true c9)) ?_
    repeat apply TW.seq
    refine sk ?_
    repeat apply TW.seq
    apply TW.block
    obtain ⟨g10, H1⟩ := isg H1
    repeat apply TW.seq
    refine rk [1, 7, 8] [] (f3 hh c3 (f2 c8 (gx_some g10))) ?_
    clear hh h
    intro h hh
    rcases isp H1 with ⟨c11, H1⟩ | ⟨c11, H1⟩
    rotate_left
    ·skip
     rcases isp H1 with ⟨c12, H1⟩ | ⟨c12, H1⟩
     rotate_left
     ·skip
      rcases isp H1 with ⟨c13, H1⟩ | ⟨c13, H1⟩
      rotate_left
      ·skip
       repeat apply TW.seq
       refine rk [1, 7, 72] [] (f3 hh (decide_eq_false c11) (f3 (decide_eq_false c12) (decide_eq_false c13) (f2 c3 c8))) ?_
       clear hh h
       intro h hh
       rcases isp H1 with ⟨c14, H1⟩ | ⟨c14, H1⟩
       rotate_left
       ·skip
        repeat apply TW.seq
        refine cf (f2 hh (decide_eq_false c14)) ?_
        repeat apply TW.seq
        refine sk ?_
        repeat apply TW.seq
        refine rk [1, 7] [] (f3 hh c3 c8) ?_
        clear hh h
        intro h hh
        exact rd m hh ⟨(IntKind.i64.wrap (i + 1)), H1, kq hh, rfl⟩
       repeat apply TW.seq
       refine ct (f2 hh (decide_eq_true c14)) ?_
       repeat apply TW.seq
       refine rk [2] [] (f3 hh c3 c8) ?_
       clear hh h
       intro h hh
       cases H1
       obtain rfl := sinl H
       exact rt hh
      repeat apply TW.seq
      refine rk [1, 7, 72] [] (f3 hh (decide_eq_false c11) (f3 (decide_eq_false c12) (decide_eq_true c13) (f2 c3 c8))) ?_
      clear hh h
      intro h hh
      repeat apply TW.seq
      refine ct hh ?_
      repeat apply TW.seq
      refine rk [2] [] (f3 hh c3 c8) ?_
      clear hh h
      intro h hh
      cases H1
      obtain rfl := sinl H
      exact rt hh
     repeat apply TW.seq
     refine rk [1, 7, 72] [] (f3 hh (decide_eq_false c11) (f3 (decide_eq_true c12) c3 c8)) ?_
     clear hh h
     intro h hh
     repeat apply TW.seq
     refine ct hh ?_
     repeat apply TW.seq
     refine rk [2] [] (f3 hh c3 c8) ?_
     clear hh h
     intro h hh
     cases H1
     obtain rfl := sinl H
     exact rt hh
    repeat apply TW.seq
    refine rk [1, 7, 72] [] (f3 hh (decide_eq_true c11) (f2 c3 c8)) ?_
    clear hh h
    intro h hh
    repeat apply TW.seq
    refine ct hh ?_
    repeat apply TW.seq
    refine rk [2] [] (f3 hh c3 c8) ?_
    clear hh h
    intro h hh
    cases H1
    obtain rfl := sinl H
    exact rt hh
   clear hh h
   rintro h bs ⟨s_3, rfl, hh, rfl⟩
   replace H := sinr H
   repeat apply TW.seq
   refine rk [1, 9] [] (f3 hh c3 c8) ?_
   clear hh h
   intro h hh
   obtain ⟨o2, H1, H⟩ := bsome H
   repeat apply TW.seq
   refine cu [1] 1 (fun h bs => ∃ s_4 : Unit, o2 = .inr s_4 ∧ (h 1 = .ptr 0 0 3) ∧ bs = [.cells true 3 [lNodes n.nodes, lLinks n.links, lEdges n.edges]]) ?_ ?_
   ·skip
    repeat apply TW.seq
    apply TW.block
    repeat apply TW.seq
    refine TW.loopT [1, 9] (fun m h bs => ∃ (i2 : Int), sr09_Check_L1 k n m i2 = some o2 ∧ (h 1 = .ptr 0 0 3 ∧ h 9 = .int .i64 i2) ∧ bs = [.cells true 3 [lNodes n.nodes, lLinks n.links, lEdges n.edges]]) ?_ k _ _ ?_
    rotate_left
    ·exact ⟨0, H1, kq hh, rfl⟩
    clear hh h H1
    rintro m h bs ⟨i2, H1, hh, rfl⟩
    rcases m with _ | m
    ·rw [sr09_Check_L1] at H1; cases H1
    rw [sr09_Check_L1] at H1
    repeat apply TW.seq
    refine rk [1, 9, 77] [] (f3 hh c3 c8) ?_
    clear hh h
    intro h hh
    rcases isp H1 with ⟨c15, H1⟩ | ⟨c15, H1⟩
    rotate_left
    ·skip
     repeat apply TW.seq
     refine cf (f2 hh (decide_eq_false c15)) ?_
     refine xk ?_
     cases H1
     exact ce hh ⟨_, rfl, kq hh, rfl⟩
    repeat apply TW.seq
    refine ct (f2 hh (decide_eq_true c15)) ?_
    repeat apply TW.seq
    refine sk ?_
    repeat apply TW.seq
    apply TW.block
    obtain ⟨g16, H1⟩ := isg H1
    repeat apply TW.seq
    refine rk [1, 9, 10] [] (f3 hh c3 (f2 c8 (gx_some g16))) ?_
    clear hh h
    intro h hh
    obtain ⟨risNode, e17, H1⟩ := bsome H1
    rcases isb H1 with ⟨c18, H1⟩ | ⟨c18, H1⟩
    rotate_left
    ·skip
     repeat apply TW.seq
     refine rkc [1, 9, 113] [] [(.bool risNode, stL [.cells true 3 [lNodes n.nodes, lLinks n.links, lEdges n.edges], .cells true 3 [.int .i64 ((gx n.links i2).frm), .int .i64 ((gx n.links i2).to), .int .i64 ((gx n.links i2).cap)]])] (f3 hh c18 (f2 c3 c8)) ?_ ?_
     ·exact ⟨Call0.call (Pure.clr (sr09_isNode_ok ax hx k n ((gx n.links i2).frm) risNode e17 ) (by first | rfl | simp only [c3, c8, c18])), trivial⟩
     clear hh h
     intro h hh
     repeat apply TW.seq
     refine ct hh ?_
     repeat apply TW.seq
     refine rk [2] [] (f3 hh c3 (f2 c8 c18)) ?_
     clear hh h
     intro h hh
     cases H1
     obtain rfl := sinl H
     exact rt hh
    obtain ⟨risNode2, e19, H1⟩ := bsome H1
    rcases isb H1 with ⟨c20, H1⟩ | ⟨c20, H1⟩
    rotate_left
    ·skip
     repeat apply TW.seq
     refine rkc [1, 9, 113] [] [(.bool risNode, stL [.cells true 3 [lNodes n.nodes, lLinks n.links, lEdges n.edges], .cells true 3 [.int .i64 ((gx n.links i2).frm), .int .i64 ((gx n.links i2).to), .int .i64 ((gx n.links i2).cap)]]), (.bool risNode2, stL [.cells true 3 [lNodes n.nodes, lLinks n.links, lEdges n.edges], .cells true 3 [.int .i64 ((gx n.links i2).frm), .int .i64 ((gx n.links i2).to), .int .i64 ((gx n.links i2).cap)]])] (f3 hh c18 (f3 c20 c3 c8)) ?_ ?_
     ·exact ⟨Call0.call (Pure.clr (sr09_isNode_ok ax hx k n ((gx n.links i2).frm) risNode e17 ) (by first | rfl | simp only [c3, c8, c18, c20])), Call0.call (Pure.clr (sr09_isNode_ok ax hx k n ((gx n.links i2).to) risNode2 e19 ) (by first | rfl | simp only [c3, c8, c18, c20])), trivial⟩
     clear hh h
     intro h hh
     repeat apply TW.seq
     refine ct hh ?_
     repeat apply TW.seq
     refine rk [2] [] (f3 hh c3 (f3 c8 c18 c20)) ?_
     clear hh h
     intro h hh
     cases H1
     obtain rfl := sinl H
     exact rt hh
    rcases isp H1 with ⟨c21, H1⟩ | ⟨c21, H1⟩
    rotate_left
    ·skip
     rcases isp H1 with ⟨c22, H1⟩ | ⟨c22, H1⟩
     rotate_left
     ·skip
      repeat apply TW.seq
      refine rkc [1, 9, 113] [] [(.bool risNode, stL [.cells true 3 [lNodes n.nodes, lLinks n.links, lEdges n.edges], .cells true 3 [.int .i64 ((gx n.links i2).frm), .int .i64 ((gx n.links i2).to), .int .i64 ((gx n.links i2).cap)]]), (.bool risNode2, stL [.cells true 3 [lNodes n.nodes, lLinks n.links, lEdges n.edges], .cells true 3 [.int .i64 ((gx n.links i2).frm), .int .i64 ((gx n.links i2).to), .int .i64 ((gx n.links i2).cap)]])] (f3 hh c18 (f3 c20 (decide_eq_false c21) (f3 (decide_eq_false c22) c3 c8))) ?_ ?_
      ·exact ⟨Call0.call (Pure.clr (sr09_isNode_ok ax hx k n ((gx n.links i2).frm) risNode e17 ) (by first | rfl | simp only [c3, c8, c18, c20])), Call0.call (Pure.clr (sr09_isNode_ok ax hx k n ((gx n.links i2).to) risNode2 e19 ) (by first | rfl | simp only [c3, c8, c18, c20])), trivial⟩
      clear hh h
      intro h hh
      rcases isp H1 with ⟨c23, H1⟩ | ⟨c23, H1⟩
      rotate_left
      ·skip
       repeat apply TW.seq
       refine cf (f2 hh (decide_eq_false c23)) ?_
       repeat apply TW.seq
       refine sk ?_
       repeat apply TW.seq
       refine rk [1, 9] [] (f3 hh c3 (f3 c8 c18 c20)) ?_
       clear hh h
       intro h hh
       exact rd m hh ⟨(IntKind.i64.wrap (i2 + 1)), H1, kq hh, rfl⟩
      repeat apply TW.seq
      refine ct (f2 hh (decide_eq_true c23)) ?_
      repeat apply TW.seq
      refine rk [2] [] (f3 hh c3 (f3 c8 c18 c20)) ?_
      clear hh h
      intro h hh
      cases H1
      obtain rfl := sinl H
      exact rt hh
     repeat apply TW.seq
     refine rkc [1, 9, 113] [] [(.bool risNode, stL [.cells true 3 [lNodes n.nodes, lLinks n.links, lEdges n.edges], .cells true 3 [.int .i64 ((gx n.links i2).frm), .int .i64 ((gx n.links i2).to), .int .i64 ((gx n.links i2).cap)]]), (.bool risNode2, stL [.cells true 3 [lNodes n.nodes, lLinks n.links, lEdges n.edges], .cells true 3 [.int .i64 ((gx n.links i2).frm), .int .i64 ((gx n.links i2).to), .int .i64 ((gx n.links i2).cap)]])] (f3 hh c18 (f3 c20 (decide_eq_false c21) (f3 (decide_eq_true c22) c3 c8))) ?_ ?_
     ·exact ⟨Call0.call (Pure.clr (sr09_isNode_ok ax hx k n ((gx n.links i2).frm) risNode e17 ) (by first | rfl | simp only [c3, c8, c18, c20])), Call0.call (Pure.clr (sr09_isNode_ok ax hx k n ((gx n.links i2).to) risNode2 e19 ) (by first | rfl | simp only [c3, c8, c18, c20])), trivial⟩
     clear hh h
     intro h hh
     repeat apply TW.seq
     refine ct hh ?_
     repeat apply TW.seq
     refine rk [2] [] (f3 hh c3 (f3 c8 c18 c20)) ?_
     clear hh h
     intro h hh
     cases H1
     obtain rfl := sinl H
     exact rt hh
    repeat apply TW.seq
    refine rkc [1, 9, 113] [] [(.bool risNode, stL [.cells true 3 [lNodes n.nodes, lLinks n.links, lEdges n.edges], .cells true 3 [.int .i64 ((gx n.links i2).frm), .int .i64 ((gx n.links i2).to), .int .i64 ((gx n.links i2).cap)]]), (.bool risNode2, stL [.cells true 3 [lNodes n.nodes, lLinks n.links, lEdges n.edges], .cells true 3 [.int .i64 ((gx n.links i2).frm), .int .i64 ((gx n.links i2).to), .int .i64 ((gx n.links i2).cap)]])] (f3 hh c18 (f3 c20 (decide_eq_true c21) (f2 c3 c8))) ?_ ?_
    ·exact ⟨Call0.call (Pure.clr (sr09_isNode_ok ax hx k n ((gx n.links i2).frm) risNode e17 ) (by first | rfl | simp only [c3, c8, c18, c20])), Call0.call (Pure.clr (sr09_isNode_ok ax hx k n ((gx n.links i2).to) risNode2 e19 ) (by first | rfl | simp only [c3, c8, c18, c20])), trivial⟩
    clear hh h
    intro h hh
    repeat apply TW.seq
    refine ct hh ?_
    repeat apply TW.seq
    refine rk [2] [] (f3 hh c3 (f3 c8 c18 c20)) ?_
    clear hh h
    intro h hh
    cases H1
    obtain rfl := sinl H
    exact rt hh
   clear hh h
   rintro h bs ⟨s_4, rfl, hh, rfl⟩
   replace H := sinr H
   repeat apply TW.seq
   refine rk [1, 11] [] (f3 hh c3 c8) ?_
   clear hh h
   intro h hh
   obtain ⟨o, H1, H⟩ := bsome H
   repeat apply TW.seq
   refine cu [] 1 (fun h bs => ∃ s_5 : Unit, o = .inr s_5 ∧ (True) ∧ bs = [.cells true 3 [lNodes n.nodes, lLinks n.links, lEdges n.edges]]) ?_ ?_
   ·skip
    repeat apply TW.seq
    apply TW.block
    repeat apply TW.seq
    refine TW.loopT [1, 11] (fun m h bs => ∃ (i3 : Int), sr09_Check_L2 k n m i3 = some o ∧ (h 1 = .ptr 0 0 3 ∧ h 11 = .int .i64 i3) ∧ bs = [.cells true 3 [lNodes n.nodes, lLinks n.links, lEdges n.edges]]) ?_ k _ _ ?_
    rotate_left
    ·exact ⟨0, H1, kq hh, rfl⟩
    clear hh h H1
    rintro m h bs ⟨i3, H1, hh, rfl⟩
    rcases m with _ | m
    ·rw [sr09_Check_L2] at H1; cases H1
    rw [sr09_Check_L2] at H1
    repeat apply TW.seq
    refine rk [1, 11, 118] [] (f3 hh c3 c8) ?_
    clear hh h
    intro h hh
    rcases isp H1 with ⟨c24, H1⟩ | ⟨c24, H1⟩
    rotate_left
    ·skip
     repeat apply TW.seq
     refine cf (f2 hh (decide_eq_false c24)) ?_
     refine xk ?_
     cases H1
     exact ce hh ⟨_, rfl, kq hh, rfl⟩
    repeat apply TW.seq
    refine ct (f2 hh (decide_eq_true c24)) ?_
    repeat apply TW.seq
    refine sk ?_
    repeat apply TW.seq
    apply TW.block
    obtain ⟨g25, H1⟩ := isg H1
    obtain ⟨risNode3, e26, H1⟩ := bsome H1
    repeat apply TW.seq
    refine dk 7 [1, 11, 129] [] [] [(.bool risNode3, stL [.cells true 3 [lNodes n.nodes, lLinks n.links, lEdges n.edges]])] (f3 hh c3 (f2 c8 (gx_some g25))) trivial ?_ ?_
    ·exact ⟨Call0.call (Pure.clr (sr09_isNode_ok ax hx k n ((gx n.edges i3).node) risNode3 e26 ) (by first | rfl | simp only [c3, c8])), trivial⟩
    clear hh h
    intro h hh
    rcases isb H1 with ⟨c27, H1⟩ | ⟨c27, H1⟩
    rotate_left
    ·skip
     repeat apply TW.seq
     refine ct (f2 hh c27) ?_
     repeat apply TW.seq
     refine rk [2] [] (f3 hh c3 (f2 c8 c27)) ?_
     clear hh h
     intro h hh
     cases H1
     obtain rfl := sinl H
     exact rt hh
    repeat apply TW.seq
    refine cf (f2 hh c27) ?_
    repeat apply TW.seq
    refine sk ?_
    repeat apply TW.seq
    refine rk [1, 11] [] (f3 hh c3 (f2 c8 c27)) ?_
    clear hh h
    intro h hh
    exact rd m hh ⟨(IntKind.i64.wrap (i3 + 1)), H1, kq hh, rfl⟩
   clear hh h
   rintro h bs ⟨s_5, rfl, hh, rfl⟩
   replace H := sinr H
   repeat apply TW.seq
   refine rk [2] [] (f3 hh c3 c8) ?_
   clear hh h
   intro h hh
   cases H
   exact rt hh
  repeat apply TW.seq
  refine ct (f2 hh c8) ?_
  repeat apply TW.seq
  refine rk [2] [] (f3 hh c3 c8) ?_
  clear hh h
  intro h hh
  cases H
  exact rt hh
 repeat apply TW.seq
 refine ct (f2 hh c3) ?_
 repeat apply TW.seq
 refine rk [2] [] (f2 hh c3) ?_
 clear hh h
 intro h hh
 cases H
 exact rt hh
def sr09_CheckFailure_L0 (k : Nat) (n : Net) (f_ : Failure) : Nat → Int → Option (Int ⊕ Unit)
 | 0, _ => none
 | m + 1, i => (if i < (f_.links.length : Int) then (if (0 : Int) ≤ i ∧ i < (f_.links.length : Int) then (if (gx f_.links i) < 0 then some (.inl 1) else (if (n.links.length : Int) ≤ (gx f_.links i) then some (.inl 1) else (if 0 < i then (if (0 : Int) ≤ (IntKind.i64.wrap (i - 1)) ∧ (IntKind.i64.wrap (i - 1)) < (f_.links.length : Int) then (if (gx f_.links i) ≤ (gx f_.links (IntKind.i64.wrap (i - 1))) then some (.inl 1) else sr09_CheckFailure_L0 k n f_ m (IntKind.i64.wrap (i + 1))) else none) else sr09_CheckFailure_L0 k n f_ m (IntKind.i64.wrap (i + 1))))) else none) else some (.inr ()))
def sr09_CheckFailure (k : Nat) (n : Net) (f_ : Failure) : Option Int := ((sr09_CheckFailure_L0 k n f_ k 0 : Option (Int ⊕ Unit)).bind fun o => Sum.elim (fun r => some r) (fun s_ => (if f_.node ≠ (-1) then ((sr09_isNode k n f_.node).bind fun risNode => (if risNode = true then some 0 else some 1)) else some 0)) o)
set_option maxHeartbeats 8000000 in
theorem sr09_CheckFailure_ok (ax : Axs) (hx : Plain ax) (k : Nat) (n : Net) (f_ : Failure) (v : Int) (H : sr09_CheckFailure k n f_ = some v) : Pure Try.prog (EE ax) [] 33 [eNet n, eFail f_] (.int .i64 v) := by
 rw [sr09_CheckFailure] at H
 refine en [.tmp 4] 58 [0, 1] (hx.no _ (by decide)) (fn33 ax) ?_
 intro h hh
 repeat apply TW.seq
 refine rk [2, 3] [] hh ?_
 clear hh h
 intro h hh
 repeat apply TW.seq
 refine rk [2, 3, 5] [] hh ?_
 clear hh h
 intro h hh
 obtain ⟨o, H1, H⟩ := bsome H
 repeat apply TW.seq
 refine cu [2, 3] 2 (fun h bs => ∃ s_ : Unit, o = .inr s_ ∧ (h 2 = .ptr 0 0 3 ∧ h 3 = .ptr 1 0 2) ∧ bs = [.cells true 3 [lNodes n.nodes, lLinks n.links, lEdges n.edges], .cells true 2 [ints f_.links, .int .i64 f_.node]]) ?_ ?_
 ·skip
  repeat apply TW.seq
  apply TW.block
  repeat apply TW.seq
  refine TW.loopT [2, 3, 5] (fun m h bs => ∃ (i : Int), sr09_CheckFailure_L0 k n f_ m i = some o ∧ (h 2 = .ptr 0 0 3 ∧ h 3 = .ptr 1 0 2 ∧ h 5 = .int .i64 i) ∧ bs = [.cells true 3 [lNodes n.nodes, lLinks n.links, lEdges n.edges], .cells true 2 [ints f_.links, .int .i64 f_.node]]) ?_ k _ _ ?_
  rotate_left
  ·exact ⟨0, H1, kq hh, rfl⟩
  clear hh h H1
  rintro m h bs ⟨i, H1, hh, rfl⟩
  rcases m with _ | m
  ·rw [sr09_CheckFailure_L0] at H1; cases H1
  rw [sr09_CheckFailure_L0] at H1
  repeat apply TW.seq
  refine rk [2, 3, 5, 10] [] hh ?_
  clear hh h
  intro h hh
  rcases isp H1 with ⟨c1, H1⟩ | ⟨c1, H1⟩
  rotate_left
  ·skip
   repeat apply TW.seq
   refine cf (f2 hh (decide_eq_false c1)) ?_
   refine xk ?_
   cases H1
   exact ce hh ⟨_, rfl, kq hh, rfl⟩
  repeat apply TW.seq
  refine ct (f2 hh (decide_eq_true c1)) ?_
  repeat apply TW.seq
  refine sk ?_
  repeat apply TW.seq
  apply TW.block
  obtain ⟨g2, H1⟩ := isg H1
  rcases isp H1 with ⟨c3, H1⟩ | ⟨c3, H1⟩
  rotate_left
  ·skip
   rcases isp H1 with ⟨c4, H1⟩ | ⟨c4, H1⟩
   rotate_left
   ·skip
    rcases isp H1 with ⟨c5, H1⟩ | ⟨c5, H1⟩
    rotate_left
    ·skip
     repeat apply TW.seq
     refine dk 32 [2, 3, 5, 47] [] [] [] (f3 hh (decide_eq_false c3) (f3 (decide_eq_false c4) (decide_eq_false c5) (gx_some g2))) trivial trivial ?_
     clear hh h
     intro h hh
     repeat apply TW.seq
     refine cf hh ?_
     repeat apply TW.seq
     refine sk ?_
     repeat apply TW.seq
     refine rk [2, 3, 5] [] hh ?_
     clear hh h
     intro h hh
     exact rd m hh ⟨(IntKind.i64.wrap (i + 1)), H1, kq hh, rfl⟩
    obtain ⟨g6, H1⟩ := isg H1
    repeat apply TW.seq
    refine dk 32 [2, 3, 5, 47] [] [] [] (f3 hh (decide_eq_false c3) (f3 (decide_eq_false c4) (decide_eq_true c5) (f2 (gx_some g2) (gx_some g6)))) trivial trivial ?_
    clear hh h
    intro h hh
    rcases isp H1 with ⟨c7, H1⟩ | ⟨c7, H1⟩
    rotate_left
    ·skip
     repeat apply TW.seq
     refine cf (f2 hh (decide_eq_false c7)) ?_
     repeat apply TW.seq
     refine sk ?_
     repeat apply TW.seq
     refine rk [2, 3, 5] [] hh ?_
     clear hh h
     intro h hh
     exact rd m hh ⟨(IntKind.i64.wrap (i + 1)), H1, kq hh, rfl⟩
    repeat apply TW.seq
    refine ct (f2 hh (decide_eq_true c7)) ?_
    repeat apply TW.seq
    refine rk [4] [] hh ?_
    clear hh h
    intro h hh
    cases H1
    obtain rfl := sinl H
    exact rt hh
   repeat apply TW.seq
   refine dk 32 [2, 3, 5, 47] [] [] [] (f3 hh (decide_eq_false c3) (f2 (decide_eq_true c4) (gx_some g2))) trivial trivial ?_
   clear hh h
   intro h hh
   repeat apply TW.seq
   refine ct hh ?_
   repeat apply TW.seq
   refine rk [4] [] hh ?_
   clear hh h
   intro h hh
   cases H1
   obtain rfl := sinl H
   exact rt hh
  repeat apply TW.seq
  refine dk 32 [2, 3, 5, 47] [] [] [] (f3 hh (decide_eq_true c3) (gx_some g2)) trivial trivial ?_
  clear hh h
  intro h hh
  repeat apply TW.seq
  refine ct hh ?_
  repeat apply TW.seq
  refine rk [4] [] hh ?_
  clear hh h
  intro h hh
  cases H1
  obtain rfl := sinl H
  exact rt hh
 clear hh h
 rintro h bs ⟨s_, rfl, hh, rfl⟩
 replace H := sinr H
 rcases isp H with ⟨c8, H⟩ | ⟨c8, H⟩
 rotate_left
 ·skip
  repeat apply TW.seq
  refine rk [57] [] (f2 hh (decide_eq_false c8)) ?_
  clear hh h
  intro h hh
  repeat apply TW.seq
  refine cf hh ?_
  repeat apply TW.seq
  refine sk ?_
  repeat apply TW.seq
  refine rk [4] [] hh ?_
  clear hh h
  intro h hh
  cases H
  exact rt hh
 obtain ⟨risNode, e9, H⟩ := bsome H
 repeat apply TW.seq
 refine rkc [57] [] [(.bool risNode, stL [.cells true 3 [lNodes n.nodes, lLinks n.links, lEdges n.edges], .cells true 2 [ints f_.links, .int .i64 f_.node]])] (f2 hh (decide_eq_true c8)) ?_ ?_
 ·exact ⟨Call0.call ((sr09_isNode_ok ax hx k n f_.node risNode e9 ).call _), trivial⟩
 clear hh h
 intro h hh
 rcases isb H with ⟨c10, H⟩ | ⟨c10, H⟩
 rotate_left
 ·skip
  repeat apply TW.seq
  refine ct (f2 hh c10) ?_
  repeat apply TW.seq
  refine rk [4] [] (f2 hh c10) ?_
  clear hh h
  intro h hh
  cases H
  exact rt hh
 repeat apply TW.seq
 refine cf (f2 hh c10) ?_
 repeat apply TW.seq
 refine sk ?_
 repeat apply TW.seq
 refine rk [4] [] (f2 hh c10) ?_
 clear hh h
 intro h hh
 cases H
 exact rt hh
def sl_right (k : Nat) (n : Net) (f_ : Failure) (from_ : Int) (to_ : Int) : Option Bool := ((sr09_Few k n 10 24 20).bind fun rFew => (if rFew = true then ((sr09_Check k n).bind fun rCheck => (if rCheck = 0 then ((sr09_CheckFailure k n f_).bind fun rCheckFailure => (if rCheckFailure = 0 then (if 0 ≤ from_ then (if from_ < (n.nodes.length : Int) then (if 0 ≤ to_ then some (decide (to_ < (n.nodes.length : Int))) else some false) else some false) else some false) else some false)) else some false)) else some false))
set_option maxHeartbeats 8000000 in
theorem sl_right_ok (ax : Axs) (hx : Plain ax) (k : Nat) (n : Net) (f_ : Failure) (from_ : Int) (to_ : Int) (v : Bool) (H : sl_right k n f_ from_ to_ = some v) : Pure Try.prog (EE ax) [] 9 [eNet n, eFail f_, .int .i64 from_, .int .i64 to_] (.bool v) := by
 rw [sl_right] at H
 refine en [.tmp 8] 44 [0, 1, 2, 3] (hx.no _ (by decide)) (fn9 ax) ?_
 intro h hh
 repeat apply TW.seq
 refine rk [2, 3, 4, 5] [] hh ?_
 clear hh h
 intro h hh
 obtain ⟨rFew, e1, H⟩ := bsome H
 rcases isb H with ⟨c2, H⟩ | ⟨c2, H⟩
 rotate_left
 ·skip
  repeat apply TW.seq
  refine rkc [8] [] [(.bool rFew, stL [.cells true 3 [lNodes n.nodes, lLinks n.links, lEdges n.edges], .cells true 2 [ints f_.links, .int .i64 f_.node]])] (f2 hh c2) ?_ ?_
  ·exact ⟨Call0.call (Pure.clr (sr09_Few_ok ax hx k n 10 24 20 rFew e1 ) (by first | rfl | simp only [c2])), trivial⟩
  clear hh h
  intro h hh
  cases H
  exact rt hh
 obtain ⟨rCheck, e3, H⟩ := bsome H
 rcases isp H with ⟨c4, H⟩ | ⟨c4, H⟩
 rotate_left
 ·skip
  repeat apply TW.seq
  refine rkc [8] [] [(.bool rFew, stL [.cells true 3 [lNodes n.nodes, lLinks n.links, lEdges n.edges], .cells true 2 [ints f_.links, .int .i64 f_.node]]), (.int .i64 rCheck, stL [.cells true 3 [lNodes n.nodes, lLinks n.links, lEdges n.edges], .cells true 2 [ints f_.links, .int .i64 f_.node]])] (f3 hh c2 (decide_eq_false c4)) ?_ ?_
  ·exact ⟨Call0.call (Pure.clr (sr09_Few_ok ax hx k n 10 24 20 rFew e1 ) (by first | rfl | simp only [c2])), Call0.call (Pure.clr (sr09_Check_ok ax hx k n rCheck e3 ) (by first | rfl | simp only [c2])), trivial⟩
  clear hh h
  intro h hh
  cases H
  exact rt hh
 obtain ⟨rCheckFailure, e5, H⟩ := bsome H
 rcases isp H with ⟨c6, H⟩ | ⟨c6, H⟩
 rotate_left
 ·skip
  repeat apply TW.seq
  refine rkc [8] [] [(.bool rFew, stL [.cells true 3 [lNodes n.nodes, lLinks n.links, lEdges n.edges], .cells true 2 [ints f_.links, .int .i64 f_.node]]), (.int .i64 rCheck, stL [.cells true 3 [lNodes n.nodes, lLinks n.links, lEdges n.edges], .cells true 2 [ints f_.links, .int .i64 f_.node]]), (.int .i64 rCheckFailure, stL [.cells true 3 [lNodes n.nodes, lLinks n.links, lEdges n.edges], .cells true 2 [ints f_.links, .int .i64 f_.node]])] (f3 hh c2 (f2 (decide_eq_true c4) (decide_eq_false c6))) ?_ ?_
  ·exact ⟨Call0.call (Pure.clr (sr09_Few_ok ax hx k n 10 24 20 rFew e1 ) (by first | rfl | simp only [c2])), Call0.call (Pure.clr (sr09_Check_ok ax hx k n rCheck e3 ) (by first | rfl | simp only [c2])), Call0.call (Pure.clr (sr09_CheckFailure_ok ax hx k n f_ rCheckFailure e5 ) (by first | rfl | simp only [c2])), trivial⟩
  clear hh h
  intro h hh
  cases H
  exact rt hh
 rcases isp H with ⟨c7, H⟩ | ⟨c7, H⟩
 rotate_left
 ·skip
  repeat apply TW.seq
  refine rkc [8] [] [(.bool rFew, stL [.cells true 3 [lNodes n.nodes, lLinks n.links, lEdges n.edges], .cells true 2 [ints f_.links, .int .i64 f_.node]]), (.int .i64 rCheck, stL [.cells true 3 [lNodes n.nodes, lLinks n.links, lEdges n.edges], .cells true 2 [ints f_.links, .int .i64 f_.node]]), (.int .i64 rCheckFailure, stL [.cells true 3 [lNodes n.nodes, lLinks n.links, lEdges n.edges], .cells true 2 [ints f_.links, .int .i64 f_.node]])] (f3 hh c2 (f3 (decide_eq_true c4) (decide_eq_true c6) (decide_eq_false c7))) ?_ ?_
  ·exact ⟨Call0.call (Pure.clr (sr09_Few_ok ax hx k n 10 24 20 rFew e1 ) (by first | rfl | simp only [c2])), Call0.call (Pure.clr (sr09_Check_ok ax hx k n rCheck e3 ) (by first | rfl | simp only [c2])), Call0.call (Pure.clr (sr09_CheckFailure_ok ax hx k n f_ rCheckFailure e5 ) (by first | rfl | simp only [c2])), trivial⟩
  clear hh h
  intro h hh
  cases H
  exact rt hh
 rcases isp H with ⟨c8, H⟩ | ⟨c8, H⟩
 rotate_left
 ·skip
  repeat apply TW.seq
  refine rkc [8] [] [(.bool rFew, stL [.cells true 3 [lNodes n.nodes, lLinks n.links, lEdges n.edges], .cells true 2 [ints f_.links, .int .i64 f_.node]]), (.int .i64 rCheck, stL [.cells true 3 [lNodes n.nodes, lLinks n.links, lEdges n.edges], .cells true 2 [ints f_.links, .int .i64 f_.node]]), (.int .i64 rCheckFailure, stL [.cells true 3 [lNodes n.nodes, lLinks n.links, lEdges n.edges], .cells true 2 [ints f_.links, .int .i64 f_.node]])] (f3 hh c2 (f3 (decide_eq_true c4) (decide_eq_true c6) (f2 (decide_eq_true c7) (decide_eq_false c8)))) ?_ ?_
  ·exact ⟨Call0.call (Pure.clr (sr09_Few_ok ax hx k n 10 24 20 rFew e1 ) (by first | rfl | simp only [c2])), Call0.call (Pure.clr (sr09_Check_ok ax hx k n rCheck e3 ) (by first | rfl | simp only [c2])), Call0.call (Pure.clr (sr09_CheckFailure_ok ax hx k n f_ rCheckFailure e5 ) (by first | rfl | simp only [c2])), trivial⟩
  clear hh h
  intro h hh
  cases H
  exact rt hh
 rcases isp H with ⟨c9, H⟩ | ⟨c9, H⟩
 rotate_left
 ·skip
  repeat apply TW.seq
  refine rkc [8] [] [(.bool rFew, stL [.cells true 3 [lNodes n.nodes, lLinks n.links, lEdges n.edges], .cells true 2 [ints f_.links, .int .i64 f_.node]]), (.int .i64 rCheck, stL [.cells true 3 [lNodes n.nodes, lLinks n.links, lEdges n.edges], .cells true 2 [ints f_.links, .int .i64 f_.node]]), (.int .i64 rCheckFailure, stL [.cells true 3 [lNodes n.nodes, lLinks n.links, lEdges n.edges], .cells true 2 [ints f_.links, .int .i64 f_.node]])] (f3 hh c2 (f3 (decide_eq_true c4) (decide_eq_true c6) (f3 (decide_eq_true c7) (decide_eq_true c8) (decide_eq_false c9)))) ?_ ?_
  ·exact ⟨Call0.call (Pure.clr (sr09_Few_ok ax hx k n 10 24 20 rFew e1 ) (by first | rfl | simp only [c2])), Call0.call (Pure.clr (sr09_Check_ok ax hx k n rCheck e3 ) (by first | rfl | simp only [c2])), Call0.call (Pure.clr (sr09_CheckFailure_ok ax hx k n f_ rCheckFailure e5 ) (by first | rfl | simp only [c2])), trivial⟩
  clear hh h
  intro h hh
  cases H
  exact rt hh
 repeat apply TW.seq
 refine rkc [8] [] [(.bool rFew, stL [.cells true 3 [lNodes n.nodes, lLinks n.links, lEdges n.edges], .cells true 2 [ints f_.links, .int .i64 f_.node]]), (.int .i64 rCheck, stL [.cells true 3 [lNodes n.nodes, lLinks n.links, lEdges n.edges], .cells true 2 [ints f_.links, .int .i64 f_.node]]), (.int .i64 rCheckFailure, stL [.cells true 3 [lNodes n.nodes, lLinks n.links, lEdges n.edges], .cells true 2 [ints f_.links, .int .i64 f_.node]])] (f3 hh c2 (f3 (decide_eq_true c4) (decide_eq_true c6) (f3 (decide_eq_true c7) (decide_eq_true c8) (decide_eq_true c9)))) ?_ ?_
 ·exact ⟨Call0.call (Pure.clr (sr09_Few_ok ax hx k n 10 24 20 rFew e1 ) (by first | rfl | simp only [c2])), Call0.call (Pure.clr (sr09_Check_ok ax hx k n rCheck e3 ) (by first | rfl | simp only [c2])), Call0.call (Pure.clr (sr09_CheckFailure_ok ax hx k n f_ rCheckFailure e5 ) (by first | rfl | simp only [c2])), trivial⟩
 clear hh h
 intro h hh
 cases H
 exact rt hh
end Go.Proofs.Ytfalnphlgfoflaa