/- The document's Max: its ways, its push, and what it gives. -/
import Derived.Test.YtfalnphlgfoflaaRd
import Derived.Test.YtfalnphlgfoflaaRa
import Derived.Test.YtfalnphlgfoflaaSF
set_option linter.unusedSimpArgs false
set_option linter.unusedVariables false
set_option linter.unusedSectionVars false
namespace Go.Proofs.Ytfalnphlgfoflaa
open Go Go.RowKit
set_option linter.unusedSimpArgs false
set_option linter.unusedVariables false
abbrev nodesW (l : List Way) : List Int := l.map (·.node)
def wArc (n : Net) (x : List Int) (l : List Way) (w : Way) : ArcU := ⟨w.link, (l.getD w.before.toNat default).node, w.node, if w.back = true then x.getD w.link.toNat default else (lnk n w.link).cap - x.getD w.link.toNat default, w.back, ()⟩
structure WI (n : Net) (f : Failure) (x : List Int) (s : Int) (seen : List Bool) (l : List Way) : Prop where
  ls : seen.length = n.nodes.length
  cnt : l.length + seen.count false = n.nodes.length
  inr : ∀ v, v ∈ nodesW l → 0 ≤ v ∧ v < (n.nodes.length : Int)
  mem : ∀ v : Nat, v < n.nodes.length → (seen.getD v default = true ↔ (v : Int) ∈ nodesW l)
  nodup : (nodesW l).Nodup
  reach : ∀ v, v ∈ nodesW l → Reach n f x s v
  head : 0 < l.length ∧ (l.getD 0 default).node = s ∧ (l.getD 0 default).before < 0
  pre : ∀ j, 0 < j → j < l.length → 0 ≤ (l.getD j default).before ∧ (l.getD j default).before < (j : Int) ∧ ArcOk n f x (wArc n x l (l.getD j default))
theorem nodesW_getD {l : List Way} {i : Nat} (h : i < l.length) : (nodesW l).getD i default = (l.getD i default).node := by
  rw [getD_of (by simpa using h), getD_of h]; simp
theorem node_mem {l : List Way} {i : Nat} (h : i < l.length) : (l.getD i default).node ∈ nodesW l := List.mem_map.2 ⟨_, getD_mem h, rfl⟩
theorem WI.len {n : Net} {f : Failure} {x : List Int} {s : Int} {seen : List Bool} {l : List Way} (h : WI n f x s seen l) : l.length ≤ n.nodes.length := by have := h.cnt; omega
theorem wArc_app {n : Net} {x : List Int} {l : List Way} {w v : Way} (h0 : 0 ≤ w.before) (h : w.before < (l.length : Int)) : wArc n x (l ++ [v]) w = wArc n x l w := by
  unfold wArc; rw [getD_app1 (by omega)]
theorem WI.more {n : Net} {f : Failure} {x : List Int} {s : Int} {seen : List Bool} {l : List Way} (h : WI n f x s seen l) {w : Way} (hb : 0 ≤ w.before ∧ w.before < (l.length : Int)) (ha : ArcOk n f x (wArc n x l w)) (h1 : 0 ≤ w.node ∧ w.node < (n.nodes.length : Int)) (hs : seen.getD w.node.toNat default = false) : WI n f x s (seen.set w.node.toNat true) (l ++ [w]) := by
  have hlt : w.node.toNat < seen.length := by rw [h.ls]; omega
  have e0 : ((w.node.toNat : Nat) : Int) = w.node := by omega
  have em : nodesW (l ++ [w]) = nodesW l ++ [w.node] := by simp
  have hnq : w.node ∉ nodesW l := fun hm => by
    have := (h.mem w.node.toNat (by omega)).2 (by rw [e0]; exact hm)
    rw [hs] at this; cases this
  refine ⟨by rw [List.length_set]; exact h.ls, ?_, fun v hv => ?_, fun v hv => ?_, ?_, fun v hv => ?_, ⟨by rw [List.length_append]; simp, by rw [getD_app1 h.head.1]; exact h.head.2.1, by rw [getD_app1 h.head.1]; exact h.head.2.2⟩, fun j h2 h3 => ?_⟩
  · have := count_set_true hlt hs
    have := h.cnt
    rw [List.length_append, List.length_singleton]; omega
  · rw [em] at hv
    rcases List.mem_append.1 hv with hv | hv
    · exact h.inr v hv
    · rw [List.mem_singleton.1 hv]; exact h1
  · rw [em]
    by_cases c : v = w.node.toNat
    · subst c
      rw [getD_set_eq hlt, e0]
      simp
    · rw [getD_set_ne (fun e => c e.symm), h.mem v hv, List.mem_append, List.mem_singleton]
      constructor
      · exact .inl
      · rintro (hh | hh)
        · exact hh
        · omega
  · rw [em, List.nodup_append]
    refine ⟨h.nodup, by simp, fun v hv u hu e => ?_⟩
    rw [List.mem_singleton.1 hu] at e
    exact hnq (e ▸ hv)
  · rw [em] at hv
    rcases List.mem_append.1 hv with hv | hv
    · exact h.reach v hv
    · rw [List.mem_singleton.1 hv]
      exact .step (a := wArc n x l w) (h.reach _ (node_mem (l := l) (i := w.before.toNat) (by omega))) ha
  · rw [List.length_append, List.length_singleton] at h3
    by_cases c : j < l.length
    · obtain ⟨b1, b2, b3⟩ := h.pre j h2 c
      rw [getD_app1 c, wArc_app b1 (by omega)]
      exact ⟨b1, b2, b3⟩
    · have : j = l.length := by omega
      subst this
      rw [getD_app2, wArc_app hb.1 hb.2]
      exact ⟨hb.1, hb.2, ha⟩
theorem wayA {k : Nat} {n : Net} {f : Failure} {x : List Int} {s : Int} {seen : List Bool} {l : List Way} {i j : Nat} (hn : RightNet n) (hx : x.length = n.links.length) (hi : i < l.length) (hj : j < n.links.length) (h : WI n f x s seen l) :
    ∃ l' seen', (((if (0 : Int) ≤ (i : Int) ∧ (i : Int) < (l.length : Int) then (if i < l.length then (if (n.links.getD j default).frm = (l.getD i default).node then (if (0 : Int) ≤ (n.links.getD j default).to ∧ (n.links.getD j default).to < (n.nodes.length : Int) then (if (n.links.getD j default).to.toNat < seen.length then (if seen.getD (n.links.getD j default).to.toNat default = true then some false else (if decide (UpP n f (j : Int)) = true then (if (0 : Int) ≤ (j : Int) ∧ (j : Int) < (x.length : Int) then some (decide (x.getD j default < (n.links.getD j default).cap)) else none) else some false)) else none) else none) else some false) else none) else none) : Option Bool).bind fun s_4 => ((if s_4 = true then (if (0 : Int) ≤ (n.links.getD j default).to ∧ (n.links.getD j default).to < (n.nodes.length : Int) then (if (n.links.getD j default).to.toNat < seen.length then (if (l.length + 1) * 33 ≤ 1000000000 then some (l ++ [(⟨(n.links.getD j default).to, (i : Int), (j : Int), false⟩ : Way)], l.length + 1, seen.set (n.links.getD j default).to.toNat true) else none) else none) else none) else some (l, l.length, seen)) : Option (List Way × Nat × List Bool))) = some (l', l'.length, seen') ∧ WI n f x s seen' l' ∧ (∃ r, l' = l ++ r) ∧ (UpP n f (j : Int) → x.getD j default < (n.links.getD j default).cap → (n.links.getD j default).frm = (l.getD i default).node → (n.links.getD j default).to ∈ nodesW l') := by
  have hto := hn.to j hj
  have hfr := hn.frm j hj
  have hnn := hn.nodes
  have hle := h.len
  rw [if_pos ⟨by omega, by omega⟩, if_pos hi]
  by_cases c1 : (n.links.getD j default).frm = (l.getD i default).node
  · rw [if_pos c1, if_pos hto, if_pos (by rw [h.ls]; omega)]
    cases hs : seen.getD (n.links.getD j default).to.toNat default with
    | true =>
      rw [if_pos rfl, Option.bind_some, if_neg (by simp)]
      refine ⟨l, seen, rfl, h, ⟨[], by simp⟩, fun _ _ _ => ?_⟩
      have := (h.mem (n.links.getD j default).to.toNat (by omega)).1 hs
      rw [show (((n.links.getD j default).to.toNat : Nat) : Int) = (n.links.getD j default).to by omega] at this
      exact this
    | false =>
      rw [if_neg (by simp)]
      by_cases c2 : UpP n f (j : Int)
      · rw [if_pos (decide_eq_true c2), if_pos ⟨by omega, by omega⟩, Option.bind_some]
        by_cases c3 : x.getD j default < (n.links.getD j default).cap
        · have ha : ArcOk n f x (wArc n x l ⟨(n.links.getD j default).to, (i : Int), (j : Int), false⟩) := by
            refine ⟨⟨by simp [wArc], by simpa [wArc] using hj, .inl ⟨rfl, ?_, rfl⟩⟩, c2, .inl ⟨rfl, by simp [wArc], ?_⟩⟩
            · show (l.getD ((i : Int)).toNat default).node = (lnk n (j : Int)).frm
              rw [Int.toNat_natCast, lnk_nat]; exact c1.symm
            · show x.getD ((j : Int)).toNat default < (lnk n (j : Int)).cap
              rw [Int.toNat_natCast, lnk_nat]; exact c3
          have hm := h.more (w := ⟨(n.links.getD j default).to, (i : Int), (j : Int), false⟩) ⟨by simp, by simpa using hi⟩ ha hto hs
          have hml := hm.len
          rw [List.length_append, List.length_singleton] at hml
          rw [if_pos (decide_eq_true c3), if_pos hto, if_pos (by rw [h.ls]; omega), if_pos (by omega)]
          refine ⟨_, _, by rw [List.length_append]; rfl, hm, ⟨_, rfl⟩, fun _ _ _ => by simp⟩
        · rw [if_neg (by simpa using c3)]
          exact ⟨l, seen, rfl, h, ⟨[], by simp⟩, fun _ q => absurd q c3⟩
      · rw [if_neg (by simpa using c2), Option.bind_some, if_neg (by simp)]
        exact ⟨l, seen, rfl, h, ⟨[], by simp⟩, fun q => absurd q c2⟩
  · rw [if_neg c1, Option.bind_some, if_neg (by simp)]
    exact ⟨l, seen, rfl, h, ⟨[], by simp⟩, fun _ _ q => absurd q c1⟩
theorem wayB {k : Nat} {n : Net} {f : Failure} {x : List Int} {s : Int} {seen : List Bool} {l : List Way} {i j : Nat} (hn : RightNet n) (hg : ∀ j, j < n.links.length → GoodK n f x j) (hx : x.length = n.links.length) (hi : i < l.length) (hj : j < n.links.length) (h : WI n f x s seen l) :
    ∃ l' seen', (((if (0 : Int) ≤ (i : Int) ∧ (i : Int) < (l.length : Int) then (if i < l.length then (if (n.links.getD j default).to = (l.getD i default).node then (if (0 : Int) ≤ (n.links.getD j default).frm ∧ (n.links.getD j default).frm < (n.nodes.length : Int) then (if (n.links.getD j default).frm.toNat < seen.length then (if seen.getD (n.links.getD j default).frm.toNat default = true then some false else (if (0 : Int) ≤ (j : Int) ∧ (j : Int) < (x.length : Int) then some (decide (0 < x.getD j default)) else none)) else none) else none) else some false) else none) else none) : Option Bool).bind fun s_6 => ((if s_6 = true then (if (0 : Int) ≤ (n.links.getD j default).frm ∧ (n.links.getD j default).frm < (n.nodes.length : Int) then (if (n.links.getD j default).frm.toNat < seen.length then (if (l.length + 1) * 33 ≤ 1000000000 then some (l ++ [(⟨(n.links.getD j default).frm, (i : Int), (j : Int), true⟩ : Way)], l.length + 1, seen.set (n.links.getD j default).frm.toNat true) else none) else none) else none) else some (l, l.length, seen)) : Option (List Way × Nat × List Bool))) = some (l', l'.length, seen') ∧ WI n f x s seen' l' ∧ (∃ r, l' = l ++ r) ∧ (0 < x.getD j default → (n.links.getD j default).to = (l.getD i default).node → (n.links.getD j default).frm ∈ nodesW l') := by
  have hto := hn.to j hj
  have hfr := hn.frm j hj
  have hnn := hn.nodes
  have hle := h.len
  rw [if_pos ⟨by omega, by omega⟩, if_pos hi]
  by_cases c1 : (n.links.getD j default).to = (l.getD i default).node
  · rw [if_pos c1, if_pos hfr, if_pos (by rw [h.ls]; omega)]
    cases hs : seen.getD (n.links.getD j default).frm.toNat default with
    | true =>
      rw [if_pos rfl, Option.bind_some, if_neg (by simp)]
      refine ⟨l, seen, rfl, h, ⟨[], by simp⟩, fun _ _ => ?_⟩
      have := (h.mem (n.links.getD j default).frm.toNat (by omega)).1 hs
      rw [show (((n.links.getD j default).frm.toNat : Nat) : Int) = (n.links.getD j default).frm by omega] at this
      exact this
    | false =>
      rw [if_neg (by simp), if_pos ⟨by omega, by omega⟩, Option.bind_some]
      by_cases c3 : 0 < x.getD j default
      · have ha : ArcOk n f x (wArc n x l ⟨(n.links.getD j default).frm, (i : Int), (j : Int), true⟩) := by
          refine ⟨⟨by simp [wArc], by simpa [wArc] using hj, .inr ⟨rfl, ?_, rfl⟩⟩, (hg j hj).2.2 c3, .inr ⟨rfl, by simp [wArc], ?_⟩⟩
          · show (l.getD ((i : Int)).toNat default).node = (lnk n (j : Int)).to
            rw [Int.toNat_natCast, lnk_nat]; exact c1.symm
          · show 0 < x.getD ((j : Int)).toNat default
            rw [Int.toNat_natCast]; exact c3
        have hm := h.more (w := ⟨(n.links.getD j default).frm, (i : Int), (j : Int), true⟩) ⟨by simp, by simpa using hi⟩ ha hfr hs
        have hml := hm.len
        rw [List.length_append, List.length_singleton] at hml
        rw [if_pos (decide_eq_true c3), if_pos hfr, if_pos (by rw [h.ls]; omega), if_pos (by omega)]
        refine ⟨_, _, by rw [List.length_append]; rfl, hm, ⟨_, rfl⟩, fun _ _ => by simp⟩
      · rw [if_neg (by simpa using c3)]
        exact ⟨l, seen, rfl, h, ⟨[], by simp⟩, fun q => absurd q c3⟩
  · rw [if_neg c1, Option.bind_some, if_neg (by simp)]
    exact ⟨l, seen, rfl, h, ⟨[], by simp⟩, fun _ q => absurd q c1⟩
end Go.Proofs.Ytfalnphlgfoflaa
namespace Go.Proofs.Ytfalnphlgfoflaa
open Go Go.RowKit
set_option linter.unusedSimpArgs false
set_option linter.unusedVariables false
theorem bind_ifs {α β : Type} {B : Option Bool} {p1 p2 p3 : Prop} [Decidable p1] [Decidable p2] [Decidable p3] {a b : α} {K : α → Option β} : (B.bind fun s => if s = true then (if p1 then (if p2 then (if p3 then K a else none) else none) else none) else K b) = (B.bind fun s => if s = true then (if p1 then (if p2 then (if p3 then some a else none) else none) else none) else some b).bind K := by
  cases B with
  | none => rfl
  | some s =>
    cases s with
    | true =>
      simp only [Option.bind_some, if_true]
      by_cases c1 : p1
      · by_cases c2 : p2
        · by_cases c3 : p3
          · simp [c1, c2, c3]
          · simp [c1, c2, c3]
        · simp [c1, c2]
      · simp [c1]
    | false => simp
def Done (n : Net) (f : Failure) (x : List Int) (i j : Nat) (l : List Way) : Prop := ∀ a, ArcOk n f x a → a.link < (j : Int) → a.frm = (l.getD i default).node → a.to ∈ nodesW l
theorem nodesW_app {l r : List Way} {v : Int} (h : v ∈ nodesW l) : v ∈ nodesW (l ++ r) := by
  rw [show nodesW (l ++ r) = nodesW l ++ nodesW r by simp]
  exact List.mem_append_left _ h
theorem getD_appl {α : Type} {l r : List α} {d : α} {i : Nat} (h : i < l.length) : (l ++ r).getD i d = l.getD i d := by
  rw [List.getD_eq_getElem?_getD, List.getD_eq_getElem?_getD, List.getElem?_append_left h]
theorem ways_L1 {k : Nat} {n : Net} {f : Failure} {x : List Int} {s : Int} {i : Nat} (hn : RightNet n) (hx : x.length = n.links.length) (hg : ∀ j, j < n.links.length → GoodK n f x j) (hl : f.links.length < 9223372036854775808) (hk : f.links.length < k) : ∀ (m j : Nat) (l : List Way) (seen : List Bool), j ≤ n.links.length → n.links.length - j < m → WI n f x s seen l → i < l.length → Done n f x i j l →
    ∃ l' seen', sr22_ways_L1 k n f x (i : Int) m (j : Int) l l.length seen = some (l', l'.length, seen') ∧ WI n f x s seen' l' ∧ (∃ r, l' = l ++ r) ∧ Done n f x i n.links.length l' := by
  have hnl := hn.links
  intro m
  induction m with
  | zero => intro j l seen h1 h2; omega
  | succ m ih =>
    intro j l seen h1 h2 h3 h4 h5
    rw [sr22_ways_L1]
    by_cases c : (j : Int) < (n.links.length : Int)
    · have hj : j < n.links.length := by omega
      rw [if_pos c, rUp_spec hl hk hj, Option.bind_some, if_pos ⟨by omega, c⟩]
      rw [gx_nat n.links j, gx_nat x j, Int.toNat_natCast, wr_succ j (show j < 9223372036854775807 by omega)]
      obtain ⟨l1, seen1, eA, w1, ⟨r1, rr1⟩, d1⟩ := wayA (k := k) hn hx h4 hj h3
      have h41 : i < l1.length := by rw [rr1, List.length_append]; omega
      have en1 : (l1.getD i default).node = (l.getD i default).node := by rw [rr1, getD_appl h4]
      obtain ⟨l2, seen2, eB, w2, ⟨r2, rr2⟩, d2⟩ := wayB (k := k) hn hg hx h41 hj w1
      have h42 : i < l2.length := by rw [rr2, List.length_append]; omega
      have en2 : (l2.getD i default).node = (l1.getD i default).node := by rw [rr2, getD_appl h41]
      rw [← Option.bind_assoc, eA, Option.bind_some]
      have eK := bind_ifs (B := (if (0 : Int) ≤ (i : Int) ∧ (i : Int) < (l1.length : Int) then (if i < l1.length then (if (n.links.getD j default).to = (l1.getD i default).node then (if (0 : Int) ≤ (n.links.getD j default).frm ∧ (n.links.getD j default).frm < (n.nodes.length : Int) then (if (n.links.getD j default).frm.toNat < seen1.length then (if seen1.getD (n.links.getD j default).frm.toNat default = true then some false else (if (0 : Int) ≤ (j : Int) ∧ (j : Int) < (x.length : Int) then some (decide (0 < x.getD j default)) else none)) else none) else none) else some false) else none) else none)) (p1 := (0 : Int) ≤ (n.links.getD j default).frm ∧ (n.links.getD j default).frm < (n.nodes.length : Int)) (p2 := (n.links.getD j default).frm.toNat < seen1.length) (p3 := (l1.length + 1) * 33 ≤ 1000000000) (a := (l1 ++ [(⟨(n.links.getD j default).frm, (i : Int), (j : Int), true⟩ : Way)], l1.length + 1, seen1.set (n.links.getD j default).frm.toNat true)) (b := (l1, l1.length, seen1)) (K := fun z => sr22_ways_L1 k n f x (i : Int) m ((j + 1 : Nat) : Int) z.1 z.2.1 z.2.2)
      rw [eB, Option.bind_some] at eK
      obtain ⟨l', seen', e1, e2, ⟨r, e3⟩, e4⟩ := ih (j + 1) l2 seen2 (by omega) (by omega) w2 h42 (fun a ha hlk hf => by
        rw [en2, en1] at hf
        by_cases q : a.link < (j : Int)
        · rw [rr2, rr1]
          exact nodesW_app (nodesW_app (h5 a ha q hf))
        · rcases arc_cases ha (show a.link = (j : Int) by omega) with ⟨u, q1, q2, q3⟩ | ⟨u, q1, q2, q3⟩
          · rw [q3, rr2]
            exact nodesW_app (d1 u q1 (q2.symm.trans hf))
          · rw [q3]
            exact d2 q1 (by rw [en1]; exact q2.symm.trans hf))
      refine ⟨l', seen', eK.trans e1, e2, ⟨r1 ++ (r2 ++ r), by rw [e3, rr2, rr1, List.append_assoc, List.append_assoc]⟩, fun a ha hlk hf => e4 a ha hlk ?_⟩
      rw [e3, rr2, rr1, List.append_assoc, List.append_assoc, getD_appl h4] at *
      exact hf
    · rw [if_neg c]
      have : j = n.links.length := by omega
      subst this
      exact ⟨l, seen, rfl, h3, ⟨[], by simp⟩, h5⟩
end Go.Proofs.Ytfalnphlgfoflaa
namespace Go.Proofs.Ytfalnphlgfoflaa
open Go Go.RowKit
set_option linter.unusedSimpArgs false
set_option linter.unusedVariables false
theorem ways_L0 {k : Nat} {n : Net} {f : Failure} {x : List Int} {s : Int} (hn : RightNet n) (hx : x.length = n.links.length) (hg : ∀ j, j < n.links.length → GoodK n f x j) (hl : f.links.length < 9223372036854775808) (hk : f.links.length < k) (hk2 : 200 < k) : ∀ (m i : Nat) (l : List Way) (seen : List Bool), i ≤ l.length → n.nodes.length - i < m → WI n f x s seen l → (∀ i', i' < i → Done n f x i' n.links.length l) →
    ∃ l' seen', sr22_ways_L0 k n f x m (i : Int) l l.length seen = some (l', l'.length, seen') ∧ WI n f x s seen' l' ∧ ∀ i', i' < l'.length → Done n f x i' n.links.length l' := by
  have hnn := hn.nodes
  have hnl := hn.links
  intro m
  induction m with
  | zero => intro i l seen h1 h2; omega
  | succ m ih =>
    intro i l seen h1 h2 h3 h4
    have hle := h3.len
    rw [sr22_ways_L0]
    by_cases c : (i : Int) < (l.length : Int)
    · have hi : i < l.length := by omega
      obtain ⟨l', seen', e1, e2, ⟨r, e3⟩, e4⟩ := ways_L1 (k := k) hn hx hg hl hk k 0 l seen (by omega) (by omega) h3 hi (fun a ha hlk => by have := ha.1.1; omega)
      rw [if_pos c, show (0 : Int) = ((0 : Nat) : Int) from rfl, e1, Option.bind_some, Option.bind_some, wr_succ i (by omega)]
      refine ih (i + 1) l' seen' (by rw [e3, List.length_append]; omega) (by omega) e2 (fun i' hi' a ha hlk hf => ?_)
      by_cases q : i' = i
      · subst q; exact e4 a ha hlk hf
      · rw [e3, getD_appl (by omega)] at hf
        rw [e3]
        exact nodesW_app (h4 i' (by omega) a ha hlk hf)
    · rw [if_neg c]
      have : i = l.length := by omega
      subst this
      exact ⟨l, seen, rfl, h3, h4⟩
theorem ways_spec {k : Nat} {n : Net} {f : Failure} {x : List Int} {s : Int} (hn : RightNet n) (hs : isNodeP n s) (hx : x.length = n.links.length) (hg : ∀ j, j < n.links.length → GoodK n f x j) (hl : f.links.length < 9223372036854775808) (hk : f.links.length < k) (hk2 : 200 < k) : ∃ l seen, sr22_ways k n f s x = some l ∧ WI n f x s seen l ∧ ∀ v, v ∈ nodesW l ↔ Reach n f x s v := by
  have hnn := hn.nodes
  have hs0 := hs.1
  have hs1 := hs.2
  have w0 : WI n f x s ((List.replicate n.nodes.length false).set s.toNat true) [(⟨s, (-1), 0, false⟩ : Way)] := by
    have hlt : s.toNat < (List.replicate n.nodes.length false).length := by rw [List.length_replicate]; omega
    refine ⟨by simp, ?_, fun v hv => by rw [List.mem_singleton.1 hv]; exact ⟨hs0, hs1⟩, fun v hv => ?_, by simp, fun v hv => by rw [List.mem_singleton.1 hv]; exact .refl, ⟨by simp, rfl, by show (-1 : Int) < 0; omega⟩, fun j j1 j2 => by simp at j2; omega⟩
    · have := count_set_true hlt (by rw [getD_of hlt]; simp)
      rw [List.count_replicate_self] at this
      rw [List.length_singleton]; omega
    · by_cases c : v = s.toNat
      · subst c
        rw [getD_set_eq hlt]
        simp; omega
      · rw [getD_set_ne (fun e => c e.symm), getD_of (by simpa using hv)]
        simp; omega
  obtain ⟨l, seen, r1, r2, r3⟩ := ways_L0 (k := k) hn hx hg hl hk hk2 k 0 _ _ (by simp) (by omega) w0 (fun i hi => by omega)
  refine ⟨l, seen, ?_, r2, fun v => ⟨fun h => r2.reach v h, fun h => ?_⟩⟩
  · unfold sr22_ways
    rw [if_pos (by omega), if_pos ⟨hs0, hs1⟩, if_pos (by rw [List.length_replicate]; omega)]
    rw [show ((0 : Nat) : Int) = 0 from rfl, List.length_singleton] at r1
    rw [r1, Option.bind_some, if_pos rfl]
  · refine reach_sub (C := (· ∈ nodesW l)) (fun a ha hf => ?_) ?_ h
    · obtain ⟨w, hw, e⟩ := List.mem_map.1 hf
      obtain ⟨j, hj, e2⟩ := List.getElem_of_mem hw
      exact r3 j hj a ha ha.1.2.1 (by rw [getD_of hj, e2]; exact e.symm)
    · rw [← r2.head.2.1]; exact node_mem r2.head.1
inductive CW (n : Net) (x : List Int) (l : List Way) : Int → List ArcU → Prop
  | nil {i : Int} : 0 ≤ i → i < (l.length : Int) → (l.getD i.toNat default).before < 0 → CW n x l i []
  | cons {i : Int} {p : List ArcU} : 0 ≤ i → i < (l.length : Int) → 0 ≤ (l.getD i.toNat default).before → CW n x l (l.getD i.toNat default).before p → CW n x l i (wArc n x l (l.getD i.toNat default) :: p)
theorem WI.chain {n : Net} {f : Failure} {x : List Int} {s : Int} {seen : List Bool} {l : List Way} (h : WI n f x s seen l) : ∀ j, j < l.length → ∃ p, CW n x l (j : Int) p ∧ PathTo n s (l.getD j default).node p ∧ (∀ a, a ∈ p → ArcOk n f x a) ∧ (∀ a, a ∈ p → ∃ i, 0 < i ∧ i ≤ j ∧ (l.getD i default).node = a.to) ∧ (p.map (·.to)).Nodup ∧ p.length ≤ j ∧ (0 < j → p ≠ []) := by
  intro j
  induction j using Nat.strongRecOn with
  | _ j ih =>
    intro hj
    by_cases c : j = 0
    · subst c
      rw [h.head.2.1]
      exact ⟨[], .nil (by omega) (by simpa using hj) h.head.2.2, .nil, fun a ha => (by cases ha), fun a ha => (by cases ha), List.nodup_nil, by simp, fun h => (by omega)⟩
    · obtain ⟨a1, a2, a3⟩ := h.pre j (by omega) hj
      obtain ⟨p, p1, p2, p3, p4, p5, p6, p7⟩ := ih (l.getD j default).before.toNat (by omega) (by omega)
      have e0 : (((l.getD j default).before.toNat : Nat) : Int) = (l.getD j default).before := by omega
      rw [e0] at p1
      have hcw : CW n x l (j : Int) (wArc n x l (l.getD j default) :: p) := by
        have := CW.cons (n := n) (x := x) (l := l) (i := (j : Int)) (p := p) (by omega) (by omega) (by rw [Int.toNat_natCast]; exact a1) (by rw [Int.toNat_natCast]; exact p1)
        rw [Int.toNat_natCast] at this
        exact this
      refine ⟨_, hcw, PathTo.cons (a := wArc n x l (l.getD j default)) a3.1 p2, fun b hb => ?_, fun b hb => ?_, ?_, by simp; omega, fun _ => by simp⟩
      · rcases List.mem_cons.1 hb with rfl | hb
        · exact a3
        · exact p3 b hb
      · rcases List.mem_cons.1 hb with rfl | hb
        · exact ⟨j, by omega, Nat.le_refl _, rfl⟩
        · obtain ⟨i', z1, z2, z3⟩ := p4 b hb
          exact ⟨i', z1, by omega, z3⟩
      · rw [List.map_cons, List.nodup_cons]
        refine ⟨fun hm => ?_, p5⟩
        obtain ⟨b, b1, b2⟩ := List.mem_map.1 hm
        obtain ⟨i', z1, z2, z3⟩ := p4 b b1
        have := nodup_inj h.nodup i' j (by simp; omega) (by simp; omega) (by rw [nodesW_getD (by omega), nodesW_getD hj, z3]; exact b2)
        omega
def minW (least : Int) (p : List ArcU) : Int := p.foldl (fun m a => if m < 0 then a.room else if a.room < m then a.room else m) least
theorem minW_pos : ∀ (p : List ArcU) (least : Int), 1 ≤ least → (∀ a, a ∈ p → 1 ≤ a.room) → 1 ≤ minW least p ∧ minW least p ≤ least ∧ ∀ a, a ∈ p → minW least p ≤ a.room
  | [], least, h, _ => ⟨h, Int.le_refl _, fun a ha => by cases ha⟩
  | b :: p, least, h, hr => by
    have hb := hr b List.mem_cons_self
    have e : minW least (b :: p) = minW (if least < 0 then b.room else if b.room < least then b.room else least) p := rfl
    rw [e, if_neg (by omega)]
    have hz : 1 ≤ (if b.room < least then b.room else least) ∧ (if b.room < least then b.room else least) ≤ least ∧ (if b.room < least then b.room else least) ≤ b.room := by split <;> omega
    generalize (if b.room < least then b.room else least) = z at hz
    obtain ⟨h1, h2, h3⟩ := minW_pos p z hz.1 fun a ha => hr a (List.mem_cons_of_mem _ ha)
    refine ⟨h1, by omega, fun a ha => ?_⟩
    rcases List.mem_cons.1 ha with rfl | ha
    · omega
    · exact h3 a ha
theorem minW_ok {p : List ArcU} (hp : p ≠ []) (hr : ∀ a, a ∈ p → 1 ≤ a.room) : 1 ≤ minW (-1) p ∧ ∀ a, a ∈ p → minW (-1) p ≤ a.room := by
  cases p with
  | nil => exact absurd rfl hp
  | cons b p =>
    have hb := hr b List.mem_cons_self
    have e : minW (-1) (b :: p) = minW b.room p := rfl
    rw [e]
    obtain ⟨h1, h2, h3⟩ := minW_pos p b.room hb fun a ha => hr a (List.mem_cons_of_mem _ ha)
    refine ⟨h1, fun a ha => ?_⟩
    rcases List.mem_cons.1 ha with rfl | ha
    · exact h2
    · exact h3 a ha
def LinkIn (n : Net) (x : List Int) (a : ArcU) : Prop := EndOk n a ∧ 0 ≤ x.getD a.link.toNat default ∧ x.getD a.link.toNat default ≤ 8589934592 ∧ 0 ≤ (lnk n a.link).cap ∧ (lnk n a.link).cap ≤ 8589934592
theorem rpush_L0 {k : Nat} {n : Net} {x : List Int} {l : List Way} (hx : x.length = n.links.length) : ∀ {p : List ArcU} {i : Int}, CW n x l i p → (∀ a, a ∈ p → LinkIn n x a) → ∀ (m : Nat) (least : Int), p.length < m → sr22_push_L0 k n x l m least i = some (minW least p)
  | [], _, .nil _ _ _, _, 0, _, h => by simp at h
  | [], _, .nil h1 h2 h3, _, m + 1, least, _ => by rw [sr22_push_L0, if_pos ⟨h1, h2⟩, gx_of, if_neg (by omega)]; rfl
  | _ :: p, _, .cons _ _ _ _, _, 0, _, h => by simp at h
  | _ :: p, i, .cons h1 h2 h3 h4, he, m + 1, least, h => by
    obtain ⟨e1, e2, e3, e4, e5⟩ := he _ List.mem_cons_self
    have hrest := fun lst => rpush_L0 (k := k) hx h4 (fun a ha => he a (List.mem_cons_of_mem _ ha)) m lst (by simpa using h)
    rw [sr22_push_L0, if_pos ⟨h1, h2⟩]
    rw [gx_of l i]
    generalize hw : l.getD i.toNat default = w at *
    obtain ⟨l0, l1, _⟩ := id e1
    change 0 ≤ w.link at l0
    change w.link < (n.links.length : Int) at l1
    rw [if_pos h3, if_pos ⟨l0, l1⟩, if_pos ⟨l0, by omega⟩]
    have er : ((if w.back = true then some (gx x w.link) else some (IntKind.i64.wrap ((gx n.links w.link).cap - gx x w.link))) : Option Int) = some (wArc n x l w).room := by
      unfold wArc
      by_cases hb : w.back = true
      · rw [if_pos hb, if_pos hb]; rfl
      · rw [if_neg hb, if_neg hb]
        change 0 ≤ x.getD w.link.toNat default at e2
        change x.getD w.link.toNat default ≤ 8589934592 at e3
        change 0 ≤ (lnk n w.link).cap at e4
        change (lnk n w.link).cap ≤ 8589934592 at e5
        show some (IntKind.i64.wrap ((lnk n w.link).cap - x.getD w.link.toNat default)) = _
        rw [wr64 (by omega)]
    rw [er, Option.bind_some]
    have em : minW least (wArc n x l w :: p) = minW (if least < 0 then (wArc n x l w).room else if (wArc n x l w).room < least then (wArc n x l w).room else least) p := rfl
    rw [em]
    by_cases q1 : least < 0
    · rw [if_pos q1, if_pos q1]; exact hrest _
    · rw [if_neg q1, if_neg q1]
      by_cases q2 : (wArc n x l w).room < least
      · rw [if_pos q2, if_pos q2]; exact hrest _
      · rw [if_neg q2, if_neg q2]; exact hrest _
theorem rpush_L1 {k : Nat} {n : Net} {x : List Int} {l : List Way} {amt : Int} {s3 : List Int × Nat} (h0 : 0 ≤ amt ∧ amt ≤ 8589934592) (hs3 : s3.2 = n.links.length) : ∀ {p : List ArcU} {i : Int}, CW n x l i p → (∀ a, a ∈ p → LinkIn n x a) → (p.map (·.link)).Nodup → ∀ (m : Nat) (y : List Int), p.length < m → y.length = n.links.length → (∀ a, a ∈ p → y.getD a.link.toNat default = x.getD a.link.toNat default) → sr22_push_L1 k l amt s3 m i y = some (augP amt p y)
  | [], _, .nil _ _ _, _, _, 0, _, h, _, _ => by simp at h
  | [], _, .nil h1 h2 h3, _, _, m + 1, y, _, _, _ => by rw [sr22_push_L1, if_pos ⟨h1, h2⟩, gx_of, if_neg (by omega)]; rfl
  | _ :: p, _, .cons _ _ _ _, _, _, 0, _, h, _, _ => by simp at h
  | _ :: p, i, .cons h1 h2 h3 h4, he, hnd, m + 1, y, h, hy, hxy => by
    rw [List.map_cons, List.nodup_cons] at hnd
    obtain ⟨e1, e2, e3, _⟩ := he _ List.mem_cons_self
    have ey := hxy _ List.mem_cons_self
    have hrest : ∀ y', y' = augA amt y (wArc n x l (l.getD i.toNat default)) → sr22_push_L1 k l amt s3 m (l.getD i.toNat default).before y' = some (augP amt (wArc n x l (l.getD i.toNat default) :: p) y) := fun y' hy' => by
      subst hy'
      refine rpush_L1 (x := x) h0 hs3 h4 (fun b hb => he b (List.mem_cons_of_mem _ hb)) hnd.2 m _ (by simpa using h) (by rw [augA_len]; exact hy) fun b hb => ?_
      rw [augA_ne (fun e => ?_)]
      · exact hxy b (List.mem_cons_of_mem _ hb)
      · have := (he b (List.mem_cons_of_mem _ hb)).1.1
        have := e1.1
        exact hnd.1 (List.mem_map.2 ⟨b, hb, by omega⟩)
    rw [sr22_push_L1, if_pos ⟨h1, h2⟩, gx_of]
    generalize hw : l.getD i.toNat default = w at *
    obtain ⟨l0, l1, _⟩ := id e1
    change 0 ≤ w.link at l0
    change w.link < (n.links.length : Int) at l1
    change 0 ≤ x.getD w.link.toNat default at e2
    change x.getD w.link.toNat default ≤ 8589934592 at e3
    change y.getD w.link.toNat default = x.getD w.link.toNat default at ey
    rw [if_pos h3]
    cases hb : w.back with
    | true =>
      rw [if_pos rfl, if_pos ⟨l0, by rw [hs3]; exact l1⟩, if_pos (by omega), wr64 (by omega)]
      refine hrest _ ?_
      unfold augA
      show _ = y.set w.link.toNat (if w.back = true then _ else _)
      rw [if_pos hb]; rfl
    | false =>
      rw [if_neg (by simp), if_pos ⟨l0, by rw [hs3]; exact l1⟩, if_pos (by omega), wr64 (by omega)]
      refine hrest _ ?_
      unfold augA
      show _ = y.set w.link.toNat (if w.back = true then _ else _)
      rw [if_neg (by rw [hb]; simp)]; rfl
end Go.Proofs.Ytfalnphlgfoflaa
namespace Go.Proofs.Ytfalnphlgfoflaa
open Go Go.RowKit
set_option linter.unusedSimpArgs false
set_option linter.unusedVariables false
theorem rpush_spec {k : Nat} {n : Net} {f : Failure} {s t : Int} {x : List Int} {seen : List Bool} {l : List Way} (hn : RightNet n) (hx : IsFlow n f s t x) (w : WI n f x s seen l) {j : Nat} (hj : j < l.length) (ht : (l.getD j default).node = t) (hk : 200 < k) : ∃ y, sr22_push k n x l (j : Int) = some y ∧ IsFlow n f s t y ∧ exS n.links x s + 1 ≤ exS n.links y s := by
  have hnn := hn.nodes
  have hnl := hn.links
  obtain ⟨hne, hxl, hg, h0, hv⟩ := id hx
  have hle := w.len
  obtain ⟨p, p1, p2, p3, p4, p5, p6, p7⟩ := w.chain j hj
  rw [ht] at p2
  have hj0 : 0 < j := by
    refine Nat.pos_of_ne_zero fun e => ?_
    subst e
    exact hne (w.head.2.1.symm.trans ht)
  have hsp : s ∉ p.map (·.to) := fun hm => by
    obtain ⟨b, b1, b2⟩ := List.mem_map.1 hm
    obtain ⟨i, z1, z2, z3⟩ := p4 b b1
    have := nodup_inj w.nodup i 0 (by simp; omega) (by simpa using w.head.1) (by rw [nodesW_getD (by omega), nodesW_getD w.head.1, z3, w.head.2.1]; exact b2)
    omega
  have hroom : ∀ a, a ∈ p → 1 ≤ a.room := fun a ha => by
    obtain ⟨_, _, q3⟩ := p3 a ha
    rcases q3 with ⟨_, e, e2⟩ | ⟨_, e, e2⟩ <;> omega
  have hin : ∀ a, a ∈ p → LinkIn n x a := fun a ha => by
    have q1 := (p3 a ha).1
    have q0 := q1.1
    have q2 := q1.2.1
    have := hg a.link.toNat (by omega)
    have c := hn.cap a.link.toNat (by omega)
    have g1 := this.1
    have g2 := this.2.1
    exact ⟨q1, g1, by omega, c.1, Int.le_trans c.2 (by omega)⟩
  obtain ⟨a1, a2⟩ := minW_ok (p7 hj0) hroom
  have hpl : (p.map (·.link)).Nodup := path_links hn p2 p5 hsp
  obtain ⟨af1, af2⟩ := aug_flow (amt := minW (-1) p) hn hne hx p2 p3 p5 hsp a1 a2
  have hub : minW (-1) p ≤ 8589934592 := by
    cases hp : p with
    | nil => exact absurd hp (p7 hj0)
    | cons b r =>
      rw [← hp]
      have hb : b ∈ p := by rw [hp]; exact List.mem_cons_self
      have := a2 b hb
      obtain ⟨_, g1, g2, g3, g4⟩ := hin b hb
      obtain ⟨_, _, q3⟩ := p3 b hb
      rcases q3 with ⟨_, e, e2⟩ | ⟨_, e, e2⟩ <;> omega
  have hpos : x.length ≠ 0 := fun e => by
    have := hin
    cases hp : p with
    | nil => exact absurd hp (p7 hj0)
    | cons b r =>
      have q := (p3 b (by rw [hp]; exact List.mem_cons_self)).1
      have := q.1
      have := q.2.1
      omega
  refine ⟨augP (minW (-1) p) p x, ?_, af1, by omega⟩
  unfold sr22_push
  rw [rpush_L0 hxl p1 hin k (-1) (by omega), Option.bind_some, if_pos (by omega), if_neg hpos, Option.bind_some]
  rw [rpush_L1 (x := x) (s3 := (x, x.length)) (by omega) hxl p1 hin hpl k x (by omega) hxl (fun _ _ => rfl), Option.bind_some, if_pos (by rw [augP_len])]
theorem rMax_skip {k : Nat} {n : Net} {t : Int} {l : List Way} (hl : l.length ≤ 1000) : ∀ (m i : Nat) (x : List Int) (b : Bool), i ≤ l.length → l.length - i < m → (∀ j, i ≤ j → j < l.length → (l.getD j default).node ≠ t) → sr22_Max_L1 k n t l m x b (i : Int) = some (x, b) := by
  intro m
  induction m with
  | zero => intro i x b h1 h2; omega
  | succ m ih =>
    intro i x b h1 h2 h3
    rw [sr22_Max_L1]
    by_cases c : (i : Int) < (l.length : Int)
    · rw [if_pos c, if_pos ⟨by omega, c⟩, gx_nat l i, if_neg (h3 i (Nat.le_refl _) (by omega)), wr_succ i (by omega)]
      exact ih (i + 1) x b (by omega) (by omega) fun j hj => h3 j (by omega)
    · rw [if_neg c]
theorem rMax_find {k : Nat} {n : Net} {t : Int} {l : List Way} (hl : l.length ≤ 1000) {j : Nat} (hj : j < l.length) (ht : (l.getD j default).node = t) (hu : ∀ i, i < l.length → (l.getD i default).node = t → i = j) : ∀ (m i : Nat) (x : List Int) (b : Bool), i ≤ j → l.length - i < m → sr22_Max_L1 k n t l m x b (i : Int) = (sr22_push k n x l (j : Int)).bind fun y => some (y, true) := by
  intro m
  induction m with
  | zero => intro i x b h1 h2; omega
  | succ m ih =>
    intro i x b h1 h2
    rw [sr22_Max_L1, if_pos (show (i : Int) < (l.length : Int) by omega), if_pos (show (0 : Int) ≤ (i : Int) ∧ (i : Int) < (l.length : Int) by omega), gx_nat l i, wr_succ i (by omega)]
    by_cases e : i = j
    · subst e
      rw [if_pos ht]
      congr 1
      funext y
      exact rMax_skip hl m (i + 1) y true (by omega) (by omega) fun i' h3 h4 h5 => by have := hu i' h4 h5; omega
    · rw [if_neg (fun q => e (hu i (by omega) q))]
      exact ih (i + 1) x b (by omega) (by omega)
theorem rMax_L0 {k : Nat} {n : Net} {f : Failure} {s t : Int} (hn : RightNet n) (hs : isNodeP n s) (hl : f.links.length < 9223372036854775808) (hk : f.links.length < k) (hk2 : 2000 < k) : ∀ (m : Nat) (x : List Int), IsFlow n f s t x → (25165824 - exS n.links x s).toNat + 1 < m → ∃ y, sr22_Max_L0 k n f s t m x true = some y ∧ IsFlow n f s t y ∧ ¬ Reach n f y s t := by
  have hnn := hn.nodes
  intro m
  induction m with
  | zero => intro x hx h; omega
  | succ m ih =>
    intro x hx h
    obtain ⟨l, seen, r1, r2, r3⟩ := ways_spec hn hs hx.2.1 hx.2.2.1 hl hk (by omega)
    have hle := r2.len
    rw [sr22_Max_L0, if_pos rfl, r1, Option.bind_some]
    by_cases c : t ∈ nodesW l
    · obtain ⟨wy, hw, e⟩ := List.mem_map.1 c
      obtain ⟨j, hj, e2⟩ := List.getElem_of_mem hw
      have ht : (l.getD j default).node = t := by rw [getD_of hj, e2]; exact e
      obtain ⟨y, y1, y2, y3⟩ := rpush_spec (k := k) hn hx r2 hj ht (by omega)
      have q := rMax_find (k := k) (n := n) (l := l) (by omega) hj ht (fun i hi hti => nodup_inj r2.nodup i j (by simpa using hi) (by simpa using hj) (by rw [nodesW_getD hi, nodesW_getD hj, hti, ht])) k 0 x false (by omega) (by omega)
      rw [show (0 : Int) = ((0 : Nat) : Int) from rfl, q, y1, Option.bind_some, Option.bind_some, Option.bind_some]
      have := val_le hn y2
      exact ih y y2 (by omega)
    · have q := rMax_skip (k := k) (n := n) (t := t) (l := l) (by omega) k 0 x false (by omega) (by omega) (fun j _ hj e => c (e ▸ node_mem hj))
      rw [show (0 : Int) = ((0 : Nat) : Int) from rfl, q, Option.bind_some, Option.bind_some]
      refine ⟨x, ?_, hx, fun hr => c ((r3 t).2 hr)⟩
      cases m with
      | zero => omega
      | succ m => rw [sr22_Max_L0, if_neg (by simp)]
theorem rCut_skip {k : Nat} {v : Int} {l : List Way} (hl : l.length ≤ 1000) : ∀ (m i : Nat) (c : List Int), i ≤ l.length → l.length - i < m → (∀ j, i ≤ j → j < l.length → (l.getD j default).node ≠ v) → sr22_Max_L3 k l v m (i : Int) c c.length = some (c, c.length) := by
  intro m
  induction m with
  | zero => intro i c h1 h2; omega
  | succ m ih =>
    intro i x h1 h2 h3
    rw [sr22_Max_L3]
    by_cases c : (i : Int) < (l.length : Int)
    · rw [if_pos c, if_pos ⟨by omega, c⟩, gx_nat l i, if_neg (h3 i (Nat.le_refl _) (by omega)), wr_succ i (by omega)]
      exact ih (i + 1) x (by omega) (by omega) fun j hj => h3 j (by omega)
    · rw [if_neg c]
theorem rCut_find {k : Nat} {v : Int} {l : List Way} (hl : l.length ≤ 1000) {j : Nat} (hj : j < l.length) (ht : (l.getD j default).node = v) (hu : ∀ i, i < l.length → (l.getD i default).node = v → i = j) : ∀ (m i : Nat) (c : List Int), c.length ≤ 1000 → i ≤ j → l.length - i < m → sr22_Max_L3 k l v m (i : Int) c c.length = some (c ++ [v], (c ++ [v]).length) := by
  intro m
  induction m with
  | zero => intro i c h0 h1 h2; omega
  | succ m ih =>
    intro i c h0 h1 h2
    rw [sr22_Max_L3, if_pos (show (i : Int) < (l.length : Int) by omega), if_pos (show (0 : Int) ≤ (i : Int) ∧ (i : Int) < (l.length : Int) by omega), gx_nat l i, wr_succ i (by omega)]
    by_cases e : i = j
    · subst e
      rw [if_pos ht, if_pos (by omega), show c.length + 1 = (c ++ [v]).length by simp]
      exact rCut_skip hl m (i + 1) _ (by omega) (by omega) fun i' h3 h4 h5 => by have := hu i' h4 h5; omega
    · rw [if_neg (fun q => e (hu i (by omega) q))]
      exact ih (i + 1) c h0 (by omega) (by omega)
theorem rMax_L2 {k : Nat} {n : Net} {f : Failure} {x : List Int} {s : Int} {seen : List Bool} {l : List Way} (hn : RightNet n) (w : WI n f x s seen l) (hk : 200 < k) : ∀ (m i : Nat), i ≤ n.nodes.length → n.nodes.length - i < m → sr22_Max_L2 k n l m (i : Int) (cutS seen i) (cutS seen i).length = some (cutS seen n.nodes.length, (cutS seen n.nodes.length).length) := by
  have hnn := hn.nodes
  have hle := w.len
  intro m
  induction m with
  | zero => intro i h1 h2; omega
  | succ m ih =>
    intro i h1 h2
    rw [sr22_Max_L2]
    by_cases c : (i : Int) < (n.nodes.length : Int)
    · have hc := cutS_len seen i
      have r := ih (i + 1) (by omega) (by omega)
      rw [if_pos c, wr_succ i (by omega)]
      have hm := w.mem i (by omega)
      by_cases q : seen.getD i default = true
      · obtain ⟨wy, hw, e⟩ := List.mem_map.1 (hm.1 q)
        obtain ⟨j, hj, e2⟩ := List.getElem_of_mem hw
        have ht : (l.getD j default).node = (i : Int) := by rw [getD_of hj, e2]; exact e
        have z := rCut_find (k := k) (v := (i : Int)) (l := l) (by omega) hj ht (fun i' hi hti => nodup_inj w.nodup i' j (by simpa using hi) (by simpa using hj) (by rw [nodesW_getD hi, nodesW_getD hj, hti, ht])) k 0 (cutS seen i) (by omega) (by omega) (by omega)
        rw [show (0 : Int) = ((0 : Nat) : Int) from rfl, z, Option.bind_some, Option.bind_some]
        have e : cutS seen (i + 1) = cutS seen i ++ [(i : Int)] := by rw [cutS, if_pos q]
        rw [e] at r
        exact r
      · have z := rCut_skip (k := k) (v := (i : Int)) (l := l) (by omega) k 0 (cutS seen i) (by omega) (by omega) (fun j _ hj e => q (hm.2 (e ▸ node_mem hj)))
        rw [show (0 : Int) = ((0 : Nat) : Int) from rfl, z, Option.bind_some, Option.bind_some]
        have e : cutS seen (i + 1) = cutS seen i := by rw [cutS, if_neg q]
        rw [e] at r
        exact r
    · rw [if_neg c]
      have : i = n.nodes.length := by omega
      subst this
      rfl
theorem rMax_spec {k : Nat} {n : Net} {f : Failure} (s t : Int) (hn : RightNet n) (hl : f.links.length < 9223372036854775808) (hk : f.links.length < k) (hk2 : 100000000 < k) : ∃ r, sr22_Max k n f s t = some r ∧ ((¬ Two n s t ∧ r = ([], [], 1)) ∨ (Two n s t ∧ r.2.2 = 0 ∧ MaxOk n f s t r.1 r.2.1)) := by
  have hnl := hn.links
  have hnn := hn.nodes
  unfold sr22_Max
  rw [risNode_spec, Option.bind_some, risNode_spec, Option.bind_some]
  by_cases c1 : isNodeP n s
  · rw [if_pos (decide_eq_true c1)]
    by_cases c2 : isNodeP n t
    · rw [if_pos (decide_eq_true c2), Option.bind_some]
      by_cases c3 : s = t
      · rw [if_pos (decide_eq_true c3)]
        exact ⟨_, rfl, .inl ⟨fun h => h.2.2 c3, rfl⟩⟩
      · rw [if_neg (by simpa using c3), if_pos (by omega)]
        obtain ⟨y, e1, e2, e3⟩ := rMax_L0 (k := k) (t := t) hn c1 hl hk (by omega) k _ (zero_flow hn c3) (by rw [exS_zeros]; omega)
        obtain ⟨l, seen, r1, r2, r3⟩ := ways_spec hn c1 e2.2.1 e2.2.2.1 hl hk (by omega)
        have q := rMax_L2 (k := k) hn r2 (by omega) k 0 (by omega) (by omega)
        rw [show cutS seen 0 = [] from rfl, List.length_nil, show ((0 : Nat) : Int) = 0 from rfl] at q
        rw [e1, Option.bind_some, r1, Option.bind_some, q, Option.bind_some, if_pos rfl]
        have hmem : ∀ v, v ∈ cutS seen n.nodes.length ↔ Reach n f y s v := fun v => by
          rw [cutS_mem, ← r3 v]
          constructor
          · rintro ⟨j, j1, rfl, j3⟩
            exact (r2.mem j j1).1 j3
          · intro hv
            have := r2.inr v hv
            exact ⟨v.toNat, by omega, by omega, (r2.mem v.toNat (by omega)).2 (by rw [show ((v.toNat : Nat) : Int) = v by omega]; exact hv)⟩
        refine ⟨_, rfl, .inr ⟨⟨c1, c2, c3⟩, rfl, e2, cutS_ok _ _ (Nat.le_refl _), cutS_len _ _, hmem, fun h => e3 ((hmem t).1 h), seen, rfl, fun v hv => ?_⟩⟩
        rw [r2.mem v hv, r3]
    · rw [if_neg (by simpa using c2), Option.bind_some, if_pos rfl]
      exact ⟨_, rfl, .inl ⟨fun h => c2 h.2.1, rfl⟩⟩
  · rw [if_neg (by simpa using c1), Option.bind_some, if_pos rfl]
    exact ⟨_, rfl, .inl ⟨fun h => c1 h.1, rfl⟩⟩
end Go.Proofs.Ytfalnphlgfoflaa
