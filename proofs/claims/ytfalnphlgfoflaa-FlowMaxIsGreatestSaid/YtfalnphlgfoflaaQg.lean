/- The document's Max: its ways, its push, and what it gives. -/
import Derived.Test.YtfalnphlgfoflaaQf
import Derived.Test.YtfalnphlgfoflaaQ6
import Derived.Test.YtfalnphlgfoflaaSF
namespace Go.Proofs.Ytfalnphlgfoflaa
open Go Go.RowKit
set_option linter.unusedSimpArgs false
set_option linter.unusedVariables false
abbrev nodesW (l : List Way) : List Int := l.map (·.node)
def wArc (n : Net) (x : List Int) (l : List Way) (w : Way) : ArcU := ⟨w.link, (l.getD w.before.toNat default).node, w.node, if w.back = true then x.getD w.link.toNat default else (lnk n w.link).cap - x.getD w.link.toNat default, w.back, ()⟩
structure WI (n : Net) (f : Failure) (x : List Int) (s : Int) (seen : List Bool) (l : List Way) : Prop where
  ls : seen.length = n.nodes.length
  cnt : l.length + seen.count false = n.nodes.length
  inr : ∀ v, v ∈ nodesW l → 0 ≤ v ∧ v < (n.nodes.length : Int)
  mem : ∀ v : Nat, v < n.nodes.length → (seen.getD v default = true ↔ (v : Int) ∈ nodesW l)
  nodup : (nodesW l).Nodup
  reach : ∀ v, v ∈ nodesW l → Reach n f x s v
  head : 0 < l.length ∧ (l.getD 0 default).node = s ∧ (l.getD 0 default).before < 0
  pre : ∀ j, 0 < j → j < l.length → 0 ≤ (l.getD j default).before ∧ (l.getD j default).before < (j : Int) ∧ ArcOk n f x (wArc n x l (l.getD j default))
theorem nodesW_getD {l : List Way} {i : Nat} (h : i < l.length) : (nodesW l).getD i default = (l.getD i default).node := by
  rw [getD_of (by simpa using h), getD_of h]; simp
theorem node_mem {l : List Way} {i : Nat} (h : i < l.length) : (l.getD i default).node ∈ nodesW l := List.mem_map.2 ⟨_, getD_mem h, rfl⟩
theorem WI.len {n : Net} {f : Failure} {x : List Int} {s : Int} {seen : List Bool} {l : List Way} (h : WI n f x s seen l) : l.length ≤ n.nodes.length := by have := h.cnt; omega
theorem wArc_app {n : Net} {x : List Int} {l : List Way} {w v : Way} (h0 : 0 ≤ w.before) (h : w.before < (l.length : Int)) : wArc n x (l ++ [v]) w = wArc n x l w := by
  unfold wArc; rw [getD_app1 (by omega)]
theorem WI.more {n : Net} {f : Failure} {x : List Int} {s : Int} {seen : List Bool} {l : List Way} (h : WI n f x s seen l) {w : Way} (hb : 0 ≤ w.before ∧ w.before < (l.length : Int)) (ha : ArcOk n f x (wArc n x l w)) (h1 : 0 ≤ w.node ∧ w.node < (n.nodes.length : Int)) (hs : seen.getD w.node.toNat default = false) : WI n f x s (seen.set w.node.toNat true) (l ++ [w]) := by
  have hlt : w.node.toNat < seen.length := by rw [h.ls]; omega
  have e0 : ((w.node.toNat : Nat) : Int) = w.node := by omega
  have em : nodesW (l ++ [w]) = nodesW l ++ [w.node] := by simp
  have hnq : w.node ∉ nodesW l := fun hm => by
    have := (h.mem w.node.toNat (by omega)).2 (by rw [e0]; exact hm)
    rw [hs] at this; cases this
  refine ⟨by rw [List.length_set]; exact h.ls, ?_, fun v hv => ?_, fun v hv => ?_, ?_, fun v hv => ?_, ⟨by rw [List.length_append]; simp, by rw [getD_app1 h.head.1]; exact h.head.2.1, by rw [getD_app1 h.head.1]; exact h.head.2.2⟩, fun j h2 h3 => ?_⟩
  · have := count_set_true hlt hs
    have := h.cnt
    rw [List.length_append, List.length_singleton]; omega
  · rw [em] at hv
    rcases List.mem_append.1 hv with hv | hv
    · exact h.inr v hv
    · rw [List.mem_singleton.1 hv]; exact h1
  · rw [em]
    by_cases c : v = w.node.toNat
    · subst c
      rw [getD_set_eq hlt, e0]
      simp
    · rw [getD_set_ne (fun e => c e.symm), h.mem v hv, List.mem_append, List.mem_singleton]
      constructor
      · exact .inl
      · rintro (hh | hh)
        · exact hh
        · omega
  · rw [em, List.nodup_append]
    refine ⟨h.nodup, by simp, fun v hv u hu e => ?_⟩
    rw [List.mem_singleton.1 hu] at e
    exact hnq (e ▸ hv)
  · rw [em] at hv
    rcases List.mem_append.1 hv with hv | hv
    · exact h.reach v hv
    · rw [List.mem_singleton.1 hv]
      exact .step (a := wArc n x l w) (h.reach _ (node_mem (l := l) (i := w.before.toNat) (by omega))) ha
  · rw [List.length_append, List.length_singleton] at h3
    by_cases c : j < l.length
    · obtain ⟨b1, b2, b3⟩ := h.pre j h2 c
      rw [getD_app1 c, wArc_app b1 (by omega)]
      exact ⟨b1, b2, b3⟩
    · have : j = l.length := by omega
      subst this
      rw [getD_app2, wArc_app hb.1 hb.2]
      exact ⟨hb.1, hb.2, ha⟩
theorem wayA {k : Nat} {n : Net} {f : Failure} {x : List Int} {s : Int} {seen : List Bool} {l : List Way} {i j : Nat} (hn : RightNet n) (hx : x.length = n.links.length) (hi : i < l.length) (hj : j < n.links.length) (h : WI n f x s seen l) :
    ∃ l' seen', (((if (0 : Int) ≤ (i : Int) ∧ (i : Int) < (l.length : Int) then (if i < l.length then (if (n.links.getD j default).frm = (l.getD i default).node then (if (0 : Int) ≤ (n.links.getD j default).to ∧ (n.links.getD j default).to < (n.nodes.length : Int) then (if (n.links.getD j default).to.toNat < seen.length then (if seen.getD (n.links.getD j default).to.toNat default = true then some false else (if decide (UpP n f (j : Int)) = true then (if (0 : Int) ≤ (j : Int) ∧ (j : Int) < (x.length : Int) then some (decide (x.getD j default < (n.links.getD j default).cap)) else none) else some false)) else none) else none) else some false) else none) else none) : Option Bool).bind fun s_4 => ((if s_4 = true then (if (0 : Int) ≤ (n.links.getD j default).to ∧ (n.links.getD j default).to < (n.nodes.length : Int) then (if (n.links.getD j default).to.toNat < seen.length then (if (l.length + 1) * 33 ≤ 1000000000 then some (l ++ [(⟨(n.links.getD j default).to, (i : Int), (j : Int), false⟩ : Way)], l.length + 1, seen.set (n.links.getD j default).to.toNat true) else none) else none) else none) else some (l, l.length, seen)) : Option (List Way × Nat × List Bool))) = some (l', l'.length, seen') ∧ WI n f x s seen' l' ∧ (∃ r, l' = l ++ r) ∧ (UpP n f (j : Int) → x.getD j default < (n.links.getD j default).cap → (n.links.getD j default).frm = (l.getD i default).node → (n.links.getD j default).to ∈ nodesW l') := by
  have hto := hn.to j hj
  have hfr := hn.frm j hj
  have hnn := hn.nodes
  have hle := h.len
  rw [if_pos ⟨by omega, by omega⟩, if_pos hi]
  by_cases c1 : (n.links.getD j default).frm = (l.getD i default).node
  · rw [if_pos c1, if_pos hto, if_pos (by rw [h.ls]; omega)]
    cases hs : seen.getD (n.links.getD j default).to.toNat default with
    | true =>
      rw [if_pos rfl, Option.bind_some, if_neg (by simp)]
      refine ⟨l, seen, rfl, h, ⟨[], by simp⟩, fun _ _ _ => ?_⟩
      have := (h.mem (n.links.getD j default).to.toNat (by omega)).1 hs
      rw [show (((n.links.getD j default).to.toNat : Nat) : Int) = (n.links.getD j default).to by omega] at this
      exact this
    | false =>
      rw [if_neg (by simp)]
      by_cases c2 : UpP n f (j : Int)
      · rw [if_pos (decide_eq_true c2), if_pos ⟨by omega, by omega⟩, Option.bind_some]
        by_cases c3 : x.getD j default < (n.links.getD j default).cap
        · have ha : ArcOk n f x (wArc n x l ⟨(n.links.getD j default).to, (i : Int), (j : Int), false⟩) := by
            refine ⟨⟨by simp [wArc], by simpa [wArc] using hj, .inl ⟨rfl, ?_, rfl⟩⟩, c2, .inl ⟨rfl, by simp [wArc], ?_⟩⟩
            · show (l.getD ((i : Int)).toNat default).node = (lnk n (j : Int)).frm
              rw [Int.toNat_natCast, lnk_nat]; exact c1.symm
            · show x.getD ((j : Int)).toNat default < (lnk n (j : Int)).cap
              rw [Int.toNat_natCast, lnk_nat]; exact c3
          have hm := h.more (w := ⟨(n.links.getD j default).to, (i : Int), (j : Int), false⟩) ⟨by simp, by simpa using hi⟩ ha hto hs
          have hml := hm.len
          rw [List.length_append, List.length_singleton] at hml
          rw [if_pos (decide_eq_true c3), if_pos hto, if_pos (by rw [h.ls]; omega), if_pos (by omega)]
          refine ⟨_, _, by rw [List.length_append]; rfl, hm, ⟨_, rfl⟩, fun _ _ _ => by simp⟩
        · rw [if_neg (by simpa using c3)]
          exact ⟨l, seen, rfl, h, ⟨[], by simp⟩, fun _ q => absurd q c3⟩
      · rw [if_neg (by simpa using c2), Option.bind_some, if_neg (by simp)]
        exact ⟨l, seen, rfl, h, ⟨[], by simp⟩, fun q => absurd q c2⟩
  · rw [if_neg c1, Option.bind_some, if_neg (by simp)]
    exact ⟨l, seen, rfl, h, ⟨[], by simp⟩, fun _ _ q => absurd q c1⟩
theorem wayB {k : Nat} {n : Net} {f : Failure} {x : List Int} {s : Int} {seen : List Bool} {l : List Way} {i j : Nat} (hn : RightNet n) (hg : ∀ j, j < n.links.length → GoodK n f x j) (hx : x.length = n.links.length) (hi : i < l.length) (hj : j < n.links.length) (h : WI n f x s seen l) :
    ∃ l' seen', (((if (0 : Int) ≤ (i : Int) ∧ (i : Int) < (l.length : Int) then (if i < l.length then (if (n.links.getD j default).to = (l.getD i default).node then (if (0 : Int) ≤ (n.links.getD j default).frm ∧ (n.links.getD j default).frm < (n.nodes.length : Int) then (if (n.links.getD j default).frm.toNat < seen.length then (if seen.getD (n.links.getD j default).frm.toNat default = true then some false else (if (0 : Int) ≤ (j : Int) ∧ (j : Int) < (x.length : Int) then some (decide (0 < x.getD j default)) else none)) else none) else none) else some false) else none) else none) : Option Bool).bind fun s_6 => ((if s_6 = true then (if (0 : Int) ≤ (n.links.getD j default).frm ∧ (n.links.getD j default).frm < (n.nodes.length : Int) then (if (n.links.getD j default).frm.toNat < seen.length then (if (l.length + 1) * 33 ≤ 1000000000 then some (l ++ [(⟨(n.links.getD j default).frm, (i : Int), (j : Int), true⟩ : Way)], l.length + 1, seen.set (n.links.getD j default).frm.toNat true) else none) else none) else none) else some (l, l.length, seen)) : Option (List Way × Nat × List Bool))) = some (l', l'.length, seen') ∧ WI n f x s seen' l' ∧ (∃ r, l' = l ++ r) ∧ (0 < x.getD j default → (n.links.getD j default).to = (l.getD i default).node → (n.links.getD j default).frm ∈ nodesW l') := by
  have hto := hn.to j hj
  have hfr := hn.frm j hj
  have hnn := hn.nodes
  have hle := h.len
  rw [if_pos ⟨by omega, by omega⟩, if_pos hi]
  by_cases c1 : (n.links.getD j default).to = (l.getD i default).node
  · rw [if_pos c1, if_pos hfr, if_pos (by rw [h.ls]; omega)]
    cases hs : seen.getD (n.links.getD j default).frm.toNat default with
    | true =>
      rw [if_pos rfl, Option.bind_some, if_neg (by simp)]
      refine ⟨l, seen, rfl, h, ⟨[], by simp⟩, fun _ _ => ?_⟩
      have := (h.mem (n.links.getD j default).frm.toNat (by omega)).1 hs
      rw [show (((n.links.getD j default).frm.toNat : Nat) : Int) = (n.links.getD j default).frm by omega] at this
      exact this
    | false =>
      rw [if_neg (by simp), if_pos ⟨by omega, by omega⟩, Option.bind_some]
      by_cases c3 : 0 < x.getD j default
      · have ha : ArcOk n f x (wArc n x l ⟨(n.links.getD j default).frm, (i : Int), (j : Int), true⟩) := by
          refine ⟨⟨by simp [wArc], by simpa [wArc] using hj, .inr ⟨rfl, ?_, rfl⟩⟩, (hg j hj).2.2 c3, .inr ⟨rfl, by simp [wArc], ?_⟩⟩
          · show (l.getD ((i : Int)).toNat default).node = (lnk n (j : Int)).to
            rw [Int.toNat_natCast, lnk_nat]; exact c1.symm
          · show 0 < x.getD ((j : Int)).toNat default
            rw [Int.toNat_natCast]; exact c3
        have hm := h.more (w := ⟨(n.links.getD j default).frm, (i : Int), (j : Int), true⟩) ⟨by simp, by simpa using hi⟩ ha hfr hs
        have hml := hm.len
        rw [List.length_append, List.length_singleton] at hml
        rw [if_pos (decide_eq_true c3), if_pos hfr, if_pos (by rw [h.ls]; omega), if_pos (by omega)]
        refine ⟨_, _, by rw [List.length_append]; rfl, hm, ⟨_, rfl⟩, fun _ _ => by simp⟩
      · rw [if_neg (by simpa using c3)]
        exact ⟨l, seen, rfl, h, ⟨[], by simp⟩, fun q => absurd q c3⟩
  · rw [if_neg c1, Option.bind_some, if_neg (by simp)]
    exact ⟨l, seen, rfl, h, ⟨[], by simp⟩, fun _ q => absurd q c1⟩
end Go.Proofs.Ytfalnphlgfoflaa
