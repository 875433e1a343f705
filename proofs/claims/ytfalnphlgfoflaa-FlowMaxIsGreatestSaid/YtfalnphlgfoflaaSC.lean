/- Functions as plain functions, and that the code computes them. -/
import Derived.Test.YtfalnphlgfoflaaSA
namespace Go.Proofs.Ytfalnphlgfoflaa
open Go Go.RowKit
set_option linter.unusedSimpArgs false
set_option linter.unusedVariables false
set_option linter.unusedSectionVars false
set_option maxRecDepth 100000
def sr22_isNode (k : Nat) (n : Net) (k_ : Int) : Option Bool := (if 0 ≤ k_ then some (decide (k_ < (n.nodes.length : Int))) else some false)
set_option maxHeartbeats 8000000 in
theorem sr22_isNode_ok (ax : Axs) (hx : Plain ax) (k : Nat) (n : Net) (k_ : Int) (v : Bool) (H : sr22_isNode k n k_ = some v) : Pure Try.prog (EE ax) [] 43 [eNet n, .int .i64 k_] (.bool v) := by
 rw [sr22_isNode] at H
 refine en [.tmp 4] 14 [0, 1] (hx.no _ (by decide)) (fn43 ax) ?_
 intro h hh
 repeat apply TW.seq
 refine rk [1, 2] [] hh ?_
 clear hh h
 intro h hh
 rcases isp H with ⟨c1, H⟩ | ⟨c1, H⟩
 rotate_left
 ·skip
  repeat apply TW.seq
  refine rk [4] [] (f2 hh (decide_eq_false c1)) ?_
  clear hh h
  intro h hh
  cases H
  exact rt hh
 repeat apply TW.seq
 refine rk [4] [] (f2 hh (decide_eq_true c1)) ?_
 clear hh h
 intro h hh
 cases H
 exact rt hh
def sr09_Up_L0 (k : Nat) (f_ : Failure) (link : Int) : Nat → Int → Option (Bool ⊕ Unit)
 | 0, _ => none
 | m + 1, i => (if i < (f_.links.length : Int) then (if (0 : Int) ≤ i ∧ i < (f_.links.length : Int) then (if (gx f_.links i) = link then some (.inl false) else sr09_Up_L0 k f_ link m (IntKind.i64.wrap (i + 1))) else none) else some (.inr ()))
def sr09_Up (k : Nat) (n : Net) (f_ : Failure) (link : Int) : Option Bool := ((sr09_Up_L0 k f_ link k 0 : Option (Bool ⊕ Unit)).bind fun o => Sum.elim (fun r => some r) (fun s_ => (if (0 : Int) ≤ link ∧ link < (n.links.length : Int) then (if ((gx n.links link).frm) ≠ f_.node then some (decide (((gx n.links link).to) ≠ f_.node)) else some false) else none)) o)
set_option maxHeartbeats 8000000 in
theorem sr09_Up_ok (ax : Axs) (hx : Plain ax) (k : Nat) (n : Net) (f_ : Failure) (link : Int) (v : Bool) (H : sr09_Up k n f_ link = some v) : Pure Try.prog (EE ax) [] 38 [eNet n, eFail f_, .int .i64 link] (.bool v) := by
 rw [sr09_Up] at H
 refine en [.tmp 6] 42 [0, 1, 2] (hx.no _ (by decide)) (fn38 ax) ?_
 intro h hh
 repeat apply TW.seq
 refine rk [2, 3, 4] [] hh ?_
 clear hh h
 intro h hh
 repeat apply TW.seq
 refine rk [2, 3, 4, 7] [] hh ?_
 clear hh h
 intro h hh
 obtain ⟨o, H1, H⟩ := bsome H
 repeat apply TW.seq
 refine cu [2, 3, 4] 2 (fun h bs => ∃ s_ : Unit, o = .inr s_ ∧ (h 2 = .int .i64 link ∧ h 3 = .ptr 0 0 3 ∧ h 4 = .ptr 1 0 2) ∧ bs = [.cells true 3 [lNodes n.nodes, lLinks n.links, lEdges n.edges], .cells true 2 [ints f_.links, .int .i64 f_.node]]) ?_ ?_
 ·skip
  repeat apply TW.seq
  apply TW.block
  repeat apply TW.seq
  refine TW.loopT [2, 3, 4, 7] (fun m h bs => ∃ (i : Int), sr09_Up_L0 k f_ link m i = some o ∧ (h 2 = .int .i64 link ∧ h 3 = .ptr 0 0 3 ∧ h 4 = .ptr 1 0 2 ∧ h 7 = .int .i64 i) ∧ bs = [.cells true 3 [lNodes n.nodes, lLinks n.links, lEdges n.edges], .cells true 2 [ints f_.links, .int .i64 f_.node]]) ?_ k _ _ ?_
  rotate_left
  ·exact ⟨0, H1, kq hh, rfl⟩
  clear hh h H1
  rintro m h bs ⟨i, H1, hh, rfl⟩
  rcases m with _ | m
  ·rw [sr09_Up_L0] at H1; cases H1
  rw [sr09_Up_L0] at H1
  repeat apply TW.seq
  refine rk [2, 3, 4, 7, 12] [] hh ?_
  clear hh h
  intro h hh
  rcases isp H1 with ⟨c1, H1⟩ | ⟨c1, H1⟩
  rotate_left
  ·skip
   repeat apply TW.seq
   refine cf (f2 hh (decide_eq_false c1)) ?_
   refine xk ?_
   cases H1
   exact ce hh ⟨_, rfl, kq hh, rfl⟩
  repeat apply TW.seq
  refine ct (f2 hh (decide_eq_true c1)) ?_
  repeat apply TW.seq
  refine sk ?_
  repeat apply TW.seq
  apply TW.block
  obtain ⟨g2, H1⟩ := isg H1
  repeat apply TW.seq
  refine rk [2, 3, 4, 7, 21] [] (f2 hh (gx_some g2)) ?_
  clear hh h
  intro h hh
  rcases isp H1 with ⟨c3, H1⟩ | ⟨c3, H1⟩
  rotate_left
  ·skip
   repeat apply TW.seq
   refine cf (f2 hh (decide_eq_false c3)) ?_
   repeat apply TW.seq
   refine sk ?_
   repeat apply TW.seq
   refine rk [2, 3, 4, 7] [] hh ?_
   clear hh h
   intro h hh
   exact rd m hh ⟨(IntKind.i64.wrap (i + 1)), H1, kq hh, rfl⟩
  repeat apply TW.seq
  refine ct (f2 hh (decide_eq_true c3)) ?_
  repeat apply TW.seq
  refine rk [6] [] hh ?_
  clear hh h
  intro h hh
  cases H1
  obtain rfl := sinl H
  exact rt hh
 clear hh h
 rintro h bs ⟨s_, rfl, hh, rfl⟩
 replace H := sinr H
 obtain ⟨g4, H⟩ := isg H
 rcases isp H with ⟨c5, H⟩ | ⟨c5, H⟩
 rotate_left
 ·skip
  repeat apply TW.seq
  refine dk 18 [6] [] [] [] (f3 hh (decide_eq_false c5) (gx_some g4)) trivial trivial ?_
  clear hh h
  intro h hh
  cases H
  exact rt hh
 repeat apply TW.seq
 refine dk 18 [6] [] [] [] (f3 hh (decide_eq_true c5) (gx_some g4)) trivial trivial ?_
 clear hh h
 intro h hh
 cases H
 exact rt hh
def sr09_SameInts_L0 (k : Nat) (a : List Int) (b : List Int) : Nat → Int → Option (Bool ⊕ Unit)
 | 0, _ => none
 | m + 1, i => (if i < (a.length : Int) then (if (0 : Int) ≤ i ∧ i < (a.length : Int) then (if (0 : Int) ≤ i ∧ i < (b.length : Int) then (if (gx a i) ≠ (gx b i) then some (.inl false) else sr09_SameInts_L0 k a b m (IntKind.i64.wrap (i + 1))) else none) else none) else some (.inr ()))
def sr09_SameInts (k : Nat) (a : List Int) (b : List Int) : Option Bool := (if (a.length : Int) ≠ (b.length : Int) then some false else ((sr09_SameInts_L0 k a b k 0 : Option (Bool ⊕ Unit)).bind fun o => Sum.elim (fun r => some r) (fun s_ => some true) o))
set_option maxHeartbeats 8000000 in
theorem sr09_SameInts_ok (ax : Axs) (hx : Plain ax) (k : Nat) (a : List Int) (b : List Int) (v : Bool) (H : sr09_SameInts k a b = some v) : Pure Try.prog (EE ax) [] 27 [ints a, ints b] (.bool v) := by
 rw [sr09_SameInts] at H
 refine en [.tmp 4] 26 [0, 1] (hx.no _ (by decide)) (fn27 ax) ?_
 intro h hh
 repeat apply TW.seq
 refine rk [0, 1] [] hh ?_
 clear hh h
 intro h hh
 repeat apply TW.seq
 refine rk [0, 1, 10] [] hh ?_
 clear hh h
 intro h hh
 rcases isp H with ⟨c1, H⟩ | ⟨c1, H⟩
 rotate_left
 ·skip
  repeat apply TW.seq
  refine cf (f2 hh (decide_eq_false c1)) ?_
  repeat apply TW.seq
  refine sk ?_
  repeat apply TW.seq
  refine rk [0, 1, 5] [] hh ?_
  clear hh h
  intro h hh
  obtain ⟨o, H1, H⟩ := bsome H
  repeat apply TW.seq
  refine cu [] 0 (fun h bs => ∃ s_ : Unit, o = .inr s_ ∧ (True) ∧ bs = []) ?_ ?_
  ·skip
   repeat apply TW.seq
   apply TW.block
   repeat apply TW.seq
   refine TW.loopT [0, 1, 5] (fun m h bs => ∃ (i : Int), sr09_SameInts_L0 k a b m i = some o ∧ (h 0 = ints a ∧ h 1 = ints b ∧ h 5 = .int .i64 i) ∧ bs = []) ?_ k _ _ ?_
   rotate_left
   ·exact ⟨0, H1, kq hh, rfl⟩
   clear hh h H1
   rintro m h bs ⟨i, H1, hh, rfl⟩
   rcases m with _ | m
   ·rw [sr09_SameInts_L0] at H1; cases H1
   rw [sr09_SameInts_L0] at H1
   repeat apply TW.seq
   refine rk [0, 1, 5, 14] [] hh ?_
   clear hh h
   intro h hh
   rcases isp H1 with ⟨c2, H1⟩ | ⟨c2, H1⟩
   rotate_left
   ·skip
    repeat apply TW.seq
    refine cf (f2 hh (decide_eq_false c2)) ?_
    refine xk ?_
    cases H1
    exact ce hh ⟨_, rfl, kq hh, rfl⟩
   repeat apply TW.seq
   refine ct (f2 hh (decide_eq_true c2)) ?_
   repeat apply TW.seq
   refine sk ?_
   repeat apply TW.seq
   apply TW.block
   obtain ⟨g3, H1⟩ := isg H1
   obtain ⟨g4, H1⟩ := isg H1
   repeat apply TW.seq
   refine dk 8 [0, 1, 5, 25] [] [] [] (f3 hh (gx_some g3) (gx_some g4)) trivial trivial ?_
   clear hh h
   intro h hh
   rcases isp H1 with ⟨c5, H1⟩ | ⟨c5, H1⟩
   rotate_left
   ·skip
    repeat apply TW.seq
    refine cf (f2 hh (decide_eq_false c5)) ?_
    repeat apply TW.seq
    refine sk ?_
    repeat apply TW.seq
    refine rk [0, 1, 5] [] hh ?_
    clear hh h
    intro h hh
    exact rd m hh ⟨(IntKind.i64.wrap (i + 1)), H1, kq hh, rfl⟩
   repeat apply TW.seq
   refine ct (f2 hh (decide_eq_true c5)) ?_
   repeat apply TW.seq
   refine rk [4] [] hh ?_
   clear hh h
   intro h hh
   cases H1
   obtain rfl := sinl H
   exact rt hh
  clear hh h
  rintro h bs ⟨s_, rfl, hh, rfl⟩
  replace H := sinr H
  repeat apply TW.seq
  refine rk [4] [] hh ?_
  clear hh h
  intro h hh
  cases H
  exact rt hh
 repeat apply TW.seq
 refine ct (f2 hh (decide_eq_true c1)) ?_
 repeat apply TW.seq
 refine rk [4] [] hh ?_
 clear hh h
 intro h hh
 cases H
 exact rt hh
end Go.Proofs.Ytfalnphlgfoflaa