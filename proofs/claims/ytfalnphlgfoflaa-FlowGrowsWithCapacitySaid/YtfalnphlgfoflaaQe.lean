/- flow: the arcs of a flow, and what is reached: that the plain functions find it. -/
import Derived.Test.YtfalnphlgfoflaaQd
import Derived.Test.YtfalnphlgfoflaaQ2
import Derived.Test.YtfalnphlgfoflaaSE
namespace Go.Proofs.Ytfalnphlgfoflaa
open Go Go.RowKit
set_option linter.unusedSimpArgs false
set_option linter.unusedVariables false
def Arcs (n : Net) (f : Failure) (x : List Int) (i : Nat) (l : List ArcU) : Prop := (∀ a, a ∈ l → ArcOk n f x a) ∧ (∀ a, ArcOk n f x a → a.link < (i : Int) → ∃ b, b ∈ l ∧ b.frm = a.frm ∧ b.to = a.to) ∧ l.length ≤ 2 * i
def fwd (n : Net) (x : List Int) (i : Nat) : ArcU := ⟨(i : Int), (n.links.getD i default).frm, (n.links.getD i default).to, (n.links.getD i default).cap - x.getD i default, false, ()⟩
def bwd (n : Net) (x : List Int) (i : Nat) : ArcU := ⟨(i : Int), (n.links.getD i default).to, (n.links.getD i default).frm, x.getD i default, true, ()⟩
theorem arc_cases {n : Net} {f : Failure} {x : List Int} {i : Nat} {a : ArcU} (h : ArcOk n f x a) (e : a.link = (i : Int)) : (UpP n f (i : Int) ∧ x.getD i default < (n.links.getD i default).cap ∧ a.frm = (fwd n x i).frm ∧ a.to = (fwd n x i).to) ∨ (UpP n f (i : Int) ∧ 0 < x.getD i default ∧ a.frm = (bwd n x i).frm ∧ a.to = (bwd n x i).to) := by
  obtain ⟨⟨h1, h2, h3⟩, h4, h5⟩ := h
  rw [e] at h3 h4 h5
  rw [lnk_nat] at h3 h5
  rw [Int.toNat_natCast] at h5
  rcases h5 with ⟨c1, c2, c3⟩ | ⟨c1, c2, c3⟩
  · rcases h3 with ⟨d1, d2, d3⟩ | ⟨d1, d2, d3⟩
    · exact .inl ⟨h4, c3, d2, d3⟩
    · rw [c1] at d1; cases d1
  · rcases h3 with ⟨d1, d2, d3⟩ | ⟨d1, d2, d3⟩
    · rw [c1] at d1; cases d1
    · exact .inr ⟨h4, c3, d2, d3⟩
theorem fwd_ok {n : Net} {f : Failure} {x : List Int} {i : Nat} (hi : i < n.links.length) (u : UpP n f (i : Int)) (h : x.getD i default < (n.links.getD i default).cap) : ArcOk n f x (fwd n x i) := ⟨⟨by simp [fwd], by simpa [fwd] using hi, .inl ⟨rfl, rfl, rfl⟩⟩, u, .inl ⟨rfl, rfl, h⟩⟩
theorem bwd_ok {n : Net} {f : Failure} {x : List Int} {i : Nat} (hi : i < n.links.length) (u : UpP n f (i : Int)) (h : 0 < x.getD i default) : ArcOk n f x (bwd n x i) := ⟨⟨by simp [bwd], by simpa [bwd] using hi, .inr ⟨rfl, rfl, rfl⟩⟩, u, .inr ⟨rfl, rfl, h⟩⟩
noncomputable def next1 (n : Net) (f : Failure) (x : List Int) (i : Nat) (l : List ArcU) : List ArcU := open Classical in if UpP n f (i : Int) ∧ x.getD i default < (n.links.getD i default).cap then l ++ [fwd n x i] else l
noncomputable def next2 (n : Net) (f : Failure) (x : List Int) (i : Nat) (l : List ArcU) : List ArcU := open Classical in if UpP n f (i : Int) ∧ 0 < x.getD i default then next1 n f x i l ++ [bwd n x i] else next1 n f x i l
theorem arcs_next {n : Net} {f : Failure} {x : List Int} {i : Nat} {l : List ArcU} (hi : i < n.links.length) (h : Arcs n f x i l) : Arcs n f x (i + 1) (next2 n f x i l) := by
  obtain ⟨h1, h2, h3⟩ := h
  have a1 : ∀ a, a ∈ next1 n f x i l → ArcOk n f x a := fun a ha => by
    unfold next1 at ha
    split at ha
    · rename_i c
      rcases List.mem_append.1 ha with ha | ha
      · exact h1 a ha
      · rw [List.mem_singleton.1 ha]; exact fwd_ok hi c.1 c.2
    · exact h1 a ha
  have a2 : ∀ a, a ∈ next2 n f x i l → ArcOk n f x a := fun a ha => by
    unfold next2 at ha
    split at ha
    · rename_i c
      rcases List.mem_append.1 ha with ha | ha
      · exact a1 a ha
      · rw [List.mem_singleton.1 ha]; exact bwd_ok hi c.1 c.2
    · exact a1 a ha
  have b1 : ∀ a, a ∈ l → a ∈ next1 n f x i l := fun a ha => by
    unfold next1; split
    · exact List.mem_append_left _ ha
    · exact ha
  have b2 : ∀ a, a ∈ next1 n f x i l → a ∈ next2 n f x i l := fun a ha => by
    unfold next2; split
    · exact List.mem_append_left _ ha
    · exact ha
  refine ⟨a2, fun a ha hl => ?_, ?_⟩
  · by_cases c : a.link < (i : Int)
    · obtain ⟨b, c1, c2⟩ := h2 a ha c
      exact ⟨b, b2 b (b1 b c1), c2⟩
    · rcases arc_cases ha (show a.link = (i : Int) by omega) with ⟨u, q, e1, e2⟩ | ⟨u, q, e1, e2⟩
      · exact ⟨fwd n x i, b2 _ (by unfold next1; rw [if_pos ⟨u, q⟩]; simp), e1.symm, e2.symm⟩
      · exact ⟨bwd n x i, by unfold next2; rw [if_pos ⟨u, q⟩]; simp, e1.symm, e2.symm⟩
  · have c1 : (next1 n f x i l).length ≤ l.length + 1 := by unfold next1; split <;> simp
    have c2 : (next2 n f x i l).length ≤ (next1 n f x i l).length + 1 := by unfold next2; split <;> simp
    omega
theorem arcs_L0 {k : Nat} {n : Net} {f : Failure} {x : List Int} (hn : RightNet n) (hx : x.length = n.links.length) (hg : ∀ j, j < n.links.length → GoodK n f x j) (hl : f.links.length < 9223372036854775808) (hk : f.links.length < k) : ∀ (m i : Nat) (l : List ArcU), i ≤ n.links.length → n.links.length - i < m → Arcs n f x i l →
    ∃ l', sflow_arcsU_b_L0 k n.links.length n f x m (i : Int) l l.length = some (l', l'.length) ∧ Arcs n f x n.links.length l' := by
  have hnl := hn.links
  intro m
  induction m with
  | zero => intro i l h1 h2; omega
  | succ m ih =>
    intro i l h1 h2 h3
    rw [sflow_arcsU_b_L0]
    by_cases c : (i : Int) < (n.links.length : Int)
    · have hi : i < n.links.length := by omega
      have hc := hn.cap i hi
      obtain ⟨g1, g2, g3⟩ := hg i hi
      have h3l := h3.2.2
      rw [if_pos c, if_pos ⟨by omega, c⟩, Up_spec hl hk hi, Option.bind_some, gx_nat n.links i, Int.toNat_natCast, wr_succ i (by omega)]
      have nx := arcs_next hi h3
      by_cases u : UpP n f (i : Int)
      · rw [if_pos (decide_eq_true u), if_pos ⟨by omega, by omega⟩, if_pos (by omega)]
        have e1 : ((if x.getD i default < (n.links.getD i default).cap then ((sflow_reached_1 k (i : Int) false).bind fun r1 => (if (l.length + 1) * 41 ≤ 1000000000 then some (l ++ [(⟨(i : Int), (n.links.getD i default).frm, (n.links.getD i default).to, IntKind.i64.wrap ((n.links.getD i default).cap - (x.getD i default)), false, r1⟩ : ArcU)], l.length + 1) else none)) else some (l, l.length)) : Option (List ArcU × Nat)) = some (next1 n f x i l, (next1 n f x i l).length) := by
          unfold next1
          by_cases q : x.getD i default < (n.links.getD i default).cap
          · rw [if_pos q, if_pos ⟨u, q⟩, sflow_reached_1, Option.bind_some, if_pos (by omega), wr64 (by omega), List.length_append]; rfl
          · rw [if_neg q, if_neg (fun z => q z.2)]
        rw [e1, Option.bind_some]
        have c1 : (next1 n f x i l).length ≤ l.length + 1 := by unfold next1; split <;> simp
        by_cases q : 0 < x.getD i default
        · have e2 : next2 n f x i l = next1 n f x i l ++ [bwd n x i] := by unfold next2; rw [if_pos ⟨u, q⟩]
          rw [if_pos q, sflow_reached_1, Option.bind_some, if_pos (by show ((next1 n f x i l).length + 1) * 41 ≤ _; omega)]
          obtain ⟨l', k1, k2⟩ := ih (i + 1) (next2 n f x i l) (by omega) (by omega) nx
          rw [e2, List.length_append] at k1
          exact ⟨l', k1, k2⟩
        · have e2 : next2 n f x i l = next1 n f x i l := by unfold next2; rw [if_neg (fun z => q z.2)]
          rw [if_neg q]
          obtain ⟨l', k1, k2⟩ := ih (i + 1) (next2 n f x i l) (by omega) (by omega) nx
          rw [e2] at k1
          exact ⟨l', k1, k2⟩
      · have e2 : next2 n f x i l = l := by unfold next2 next1; rw [if_neg (fun z => u z.1), if_neg (fun z => u z.1)]
        rw [if_neg (by simpa using u)]
        obtain ⟨l', k1, k2⟩ := ih (i + 1) (next2 n f x i l) (by omega) (by omega) nx
        rw [e2] at k1
        exact ⟨l', k1, k2⟩
    · rw [if_neg c]
      have : i = n.links.length := by omega
      subst this
      exact ⟨l, rfl, h3⟩
theorem arcs_spec {k : Nat} {n : Net} {f : Failure} {x : List Int} (hn : RightNet n) (hx : x.length = n.links.length) (hg : ∀ j, j < n.links.length → GoodK n f x j) (hl : f.links.length < 9223372036854775808) (hk : f.links.length < k) (hk2 : 100 < k) : ∃ l, sflow_arcsU_b k n.links.length n f x = some l ∧ Arcs n f x n.links.length l := by
  have hnl := hn.links
  obtain ⟨l, h1, h2⟩ := arcs_L0 hn hx hg hl hk k 0 [] (by omega) (by omega) ⟨fun a ha => (by cases ha), fun a ha hl => (by have := ha.1.1; omega), by simp⟩
  refine ⟨l, ?_, h2⟩
  unfold sflow_arcsU_b
  rw [show ((0 : Nat) : Int) = 0 from rfl, List.length_nil] at h1
  rw [h1, Option.bind_some, if_pos rfl]
structure BI (n : Net) (f : Failure) (x : List Int) (s : Int) (seen : List Bool) (by_ : List (Option ArcU)) (q : List Int) : Prop where
  ls : seen.length = n.nodes.length
  lb : by_.length = n.nodes.length
  cnt : q.length + seen.count false = n.nodes.length
  inr : ∀ v, v ∈ q → 0 ≤ v ∧ v < (n.nodes.length : Int)
  mem : ∀ v : Nat, v < n.nodes.length → (seen.getD v default = true ↔ (v : Int) ∈ q)
  nodup : q.Nodup
  reach : ∀ v, v ∈ q → Reach n f x s v
  head : 0 < q.length ∧ q.getD 0 default = s
  pre : ∀ j, 0 < j → j < q.length → ∃ a, by_.getD (q.getD j default).toNat default = some a ∧ ArcOk n f x a ∧ a.to = q.getD j default ∧ ∃ i, i < j ∧ q.getD i default = a.frm
theorem getD_app1 {α : Type} {l : List α} {v d : α} {i : Nat} (h : i < l.length) : (l ++ [v]).getD i d = l.getD i d := by
  rw [List.getD_eq_getElem?_getD, List.getD_eq_getElem?_getD, List.getElem?_append_left h]
theorem getD_app2 {α : Type} {l : List α} {v d : α} : (l ++ [v]).getD l.length d = v := by
  rw [List.getD_eq_getElem?_getD, List.getElem?_append_right (Nat.le_refl _), Nat.sub_self]; rfl
theorem getD_set_eq {α : Type} {l : List α} {i : Nat} {v d : α} (h : i < l.length) : (l.set i v).getD i d = v := by
  rw [List.getD_eq_getElem?_getD, List.getElem?_set_self h]; rfl
theorem count_set_true {l : List Bool} {i : Nat} (h : i < l.length) (hf : l.getD i default = false) : (l.set i true).count false + 1 = l.count false := by
  induction l generalizing i with
  | nil => simp at h
  | cons b l ih =>
    cases i with
    | zero =>
      have : b = false := hf
      subst this
      simp
    | succ i =>
      have := ih (i := i) (by simpa using h) hf
      rw [List.set_cons_succ, List.count_cons, List.count_cons]
      omega
theorem getD_mem_int {l : List Int} {i : Nat} (h : i < l.length) : l.getD i default ∈ l := getD_mem h
theorem mem_getD {l : List Int} {v : Int} (h : v ∈ l) : ∃ i, i < l.length ∧ l.getD i default = v := by
  obtain ⟨i, hi, e⟩ := List.getElem_of_mem h
  exact ⟨i, hi, by rw [getD_of hi]; exact e⟩
theorem BI.more {n : Net} {f : Failure} {x : List Int} {s : Int} {seen : List Bool} {by_ : List (Option ArcU)} {q : List Int} (h : BI n f x s seen by_ q) {a : ArcU} (ha : ArcOk n f x a) (hf : a.frm ∈ q) (h0 : 0 ≤ a.to) (h1 : a.to < (n.nodes.length : Int)) (hs : seen.getD a.to.toNat default = false) : BI n f x s (seen.set a.to.toNat true) (by_.set a.to.toNat (some a)) (q ++ [a.to]) := by
  have hlt : a.to.toNat < seen.length := by rw [h.ls]; omega
  have e0 : ((a.to.toNat : Nat) : Int) = a.to := by omega
  have hnq : a.to ∉ q := fun hm => by
    have := (h.mem a.to.toNat (by omega)).2 (by rw [e0]; exact hm)
    rw [hs] at this; cases this
  refine ⟨by rw [List.length_set]; exact h.ls, by rw [List.length_set]; exact h.lb, ?_, fun v hv => ?_, fun v hv => ?_, ?_, fun v hv => ?_, ⟨by rw [List.length_append]; simp, by rw [getD_app1 h.head.1]; exact h.head.2⟩, fun j h2 h3 => ?_⟩
  · have := count_set_true hlt hs
    have := h.cnt
    rw [List.length_append, List.length_singleton]; omega
  · rcases List.mem_append.1 hv with hv | hv
    · exact h.inr v hv
    · rw [List.mem_singleton.1 hv]; exact ⟨h0, h1⟩
  · by_cases c : v = a.to.toNat
    · subst c
      rw [getD_set_eq hlt, e0]
      simp
    · rw [getD_set_ne (fun e => c e.symm), h.mem v hv, List.mem_append, List.mem_singleton]
      constructor
      · exact .inl
      · rintro (hh | hh)
        · exact hh
        · omega
  · rw [List.nodup_append]
    refine ⟨h.nodup, by simp, fun v hv w hw e => ?_⟩
    rw [List.mem_singleton.1 hw] at e
    exact hnq (e ▸ hv)
  · rcases List.mem_append.1 hv with hv | hv
    · exact h.reach v hv
    · rw [List.mem_singleton.1 hv]; exact .step (h.reach _ hf) ha
  · rw [List.length_append, List.length_singleton] at h3
    by_cases c : j < q.length
    · obtain ⟨b, b1, b2, b3, i, b4, b5⟩ := h.pre j h2 c
      have hv := h.inr _ (getD_mem_int c)
      refine ⟨b, ?_, b2, by rw [getD_app1 c]; exact b3, i, b4, by rw [getD_app1 (by omega)]; exact b5⟩
      rw [getD_app1 c, getD_set_ne (fun e => ?_)]
      · exact b1
      · have : q.getD j default = a.to := by omega
        exact hnq (this ▸ getD_mem_int c)
    · have : j = q.length := by omega
      subst this
      obtain ⟨i, i1, i2⟩ := mem_getD hf
      refine ⟨a, ?_, ha, by rw [getD_app2], i, i1, by rw [getD_app1 i1]; exact i2⟩
      rw [getD_app2, getD_set_eq (by rw [h.lb]; omega)]
theorem BI.len {n : Net} {f : Failure} {x : List Int} {s : Int} {seen : List Bool} {by_ : List (Option ArcU)} {q : List Int} (h : BI n f x s seen by_ q) : q.length ≤ n.nodes.length := by have := h.cnt; omega
theorem arc_in {n : Net} {f : Failure} {x : List Int} {a : ArcU} (hn : RightNet n) (h : ArcOk n f x a) : (0 ≤ a.frm ∧ a.frm < (n.nodes.length : Int)) ∧ 0 ≤ a.to ∧ a.to < (n.nodes.length : Int) := by
  obtain ⟨⟨h1, h2, h3⟩, _⟩ := h
  have := hn.frm a.link.toNat (by omega)
  have := hn.to a.link.toNat (by omega)
  unfold lnk at h3
  rcases h3 with ⟨_, e1, e2⟩ | ⟨_, e1, e2⟩ <;> rw [e1, e2] <;> exact ⟨by assumption, by assumption⟩
theorem visit_L0 {k : Nat} {n : Net} {f : Failure} {x : List Int} {s at_ : Int} {all : List ArcU} (hn : RightNet n) (hall : ∀ a, a ∈ all → ArcOk n f x a) (hlen : all.length ≤ 100) : ∀ (m i : Nat) (seen : List Bool) (by_ : List (Option ArcU)) (q : List Int), i ≤ all.length → all.length - i < m → BI n f x s seen by_ q → at_ ∈ q → (∀ j, j < i → (all.getD j default).frm = at_ → (all.getD j default).to ∈ q) →
    ∃ seen' by' q', sflow_reached_2_b1_L0 k n.nodes.length n.nodes.length at_ all m (i : Int) seen by_ q q.length = some (seen', by', q', q'.length) ∧ BI n f x s seen' by' q' ∧ (∃ r, q' = q ++ r) ∧ ∀ j, j < all.length → (all.getD j default).frm = at_ → (all.getD j default).to ∈ q' := by
  have hnn := hn.nodes
  intro m
  induction m with
  | zero => intro i seen by_ q h1 h2; omega
  | succ m ih =>
    intro i seen by_ q h1 h2 h3 h4 h5
    rw [sflow_reached_2_b1_L0]
    by_cases c : (i : Int) < (all.length : Int)
    · have hi : i < all.length := by omega
      have ha := hall _ (getD_mem hi)
      obtain ⟨_, t1, t2⟩ := arc_in hn ha
      rw [if_pos c, if_pos ⟨by omega, c⟩, gx_nat all i, wr_succ i (by omega)]
      generalize hA : all.getD i default = a at ha t1 t2
      have hlt : a.to.toNat < n.nodes.length := by omega
      by_cases q1 : a.frm = at_
      · rw [if_pos q1, if_pos ⟨t1, t2⟩, if_pos (by rw [h3.ls]; exact hlt), Option.bind_some]
        cases hs : seen.getD a.to.toNat default with
        | false =>
          have hm := h3.more ha (q1 ▸ h4) t1 t2 hs
          have hle := hm.len
          rw [List.length_append, List.length_singleton] at hle
          rw [if_pos (by rfl), if_pos ⟨t1, t2⟩, if_pos (by rw [h3.ls]; exact hlt), if_pos ⟨t1, t2⟩, if_pos (by rw [h3.lb]; exact hlt), if_pos (by omega)]
          have e : q.length + 1 = (q ++ [a.to]).length := by simp
          rw [e]
          obtain ⟨seen', by', q', r1, r2, ⟨r, r3⟩, r4⟩ := ih (i + 1) _ _ (q ++ [a.to]) (by omega) (by omega) hm (List.mem_append_left _ h4) (fun j hj hf => by
            by_cases z : j = i
            · subst z; rw [hA]; simp
            · exact List.mem_append_left _ (h5 j (by omega) hf))
          exact ⟨seen', by', q', r1, r2, ⟨[a.to] ++ r, by rw [r3, List.append_assoc]⟩, r4⟩
        | true =>
          rw [if_neg (by simp)]
          refine ih (i + 1) _ _ q (by omega) (by omega) h3 h4 (fun j hj hf => ?_)
          by_cases z : j = i
          · subst z
            rw [hA]
            have := (h3.mem a.to.toNat hlt).1 hs
            rw [show ((a.to.toNat : Nat) : Int) = a.to by omega] at this
            exact this
          · exact h5 j (by omega) hf
      · rw [if_neg q1, Option.bind_some, if_neg (by simp)]
        refine ih (i + 1) _ _ q (by omega) (by omega) h3 h4 (fun j hj hf => ?_)
        by_cases z : j = i
        · subst z; rw [hA] at hf; exact absurd hf q1
        · exact h5 j (by omega) hf
    · rw [if_neg c]
      have : i = all.length := by omega
      subst this
      exact ⟨seen, by_, q, rfl, h3, ⟨[], by simp⟩, h5⟩
theorem reached_L0 {k : Nat} {n : Net} {f : Failure} {x : List Int} {s : Int} {all : List ArcU} (hn : RightNet n) (hall : ∀ a, a ∈ all → ArcOk n f x a) (hlen : all.length ≤ 100) (hk2 : 200 < k) : ∀ (m i : Nat) (seen : List Bool) (by_ : List (Option ArcU)) (q : List Int), i ≤ q.length → n.nodes.length - i < m → BI n f x s seen by_ q → (∀ j a, j < i → a ∈ all → a.frm = q.getD j default → a.to ∈ q) →
    ∃ seen' by' q', sflow_reached_b_L0 k n all m (i : Int) by_ seen q q.length = some (by', seen', q', q'.length) ∧ BI n f x s seen' by' q' ∧ ∀ a, a ∈ all → a.frm ∈ q' → a.to ∈ q' := by
  have hnn := hn.nodes
  intro m
  induction m with
  | zero => intro i seen by_ q h1 h2; omega
  | succ m ih =>
    intro i seen by_ q h1 h2 h3 h4
    rw [sflow_reached_b_L0]
    have hle := h3.len
    by_cases c : (i : Int) < (q.length : Int)
    · have hi : i < q.length := by omega
      rw [if_pos c, if_pos ⟨by omega, c⟩, if_pos (by omega), Int.toNat_natCast, wr_succ i (by omega)]
      obtain ⟨seen', by', q', r1, r2, ⟨r, r3⟩, r4⟩ := visit_L0 (k := k) (s := s) (at_ := q.getD i default) hn hall hlen k 0 seen by_ q (by omega) (by omega) h3 (getD_mem hi) (fun j hj => by omega)
      rw [sflow_reached_2_b1, show (0 : Int) = ((0 : Nat) : Int) from rfl, r1, Option.bind_some, Option.bind_some]
      have hq : ∀ j, j < q.length → q'.getD j default = q.getD j default := fun j hj => by
        rw [r3, List.getD_eq_getElem?_getD, List.getD_eq_getElem?_getD, List.getElem?_append_left hj]
      refine ih (i + 1) seen' by' q' (by rw [r3, List.length_append]; omega) (by omega) r2 (fun j a hj ha hf => ?_)
      by_cases z : j = i
      · subst z
        rw [hq j hi] at hf
        obtain ⟨t, t1, t2⟩ := List.getElem_of_mem ha
        have := r4 t t1 (by rw [getD_of t1, t2]; exact hf)
        rw [getD_of t1, t2] at this
        exact this
      · rw [hq j (by omega)] at hf
        rw [r3]
        exact List.mem_append_left _ (h4 j a (by omega) ha hf)
    · rw [if_neg c]
      have : i = q.length := by omega
      subst this
      refine ⟨seen, by_, q, rfl, h3, fun a ha hf => ?_⟩
      obtain ⟨j, j1, j2⟩ := mem_getD hf
      exact h4 j a j1 ha j2.symm
theorem reached_spec {k : Nat} {n : Net} {f : Failure} {x : List Int} {s : Int} (hn : RightNet n) (hs : 0 ≤ s ∧ s < (n.nodes.length : Int)) (hx : x.length = n.links.length) (hg : ∀ j, j < n.links.length → GoodK n f x j) (hl : f.links.length < 9223372036854775808) (hk : f.links.length < k) (hk2 : 200 < k) : ∃ by_ seen q, sflow_reached_b k n.links.length n f s x = some (by_, seen) ∧ BI n f x s seen by_ q ∧ ∀ a, ArcOk n f x a → a.frm ∈ q → a.to ∈ q := by
  have hnn := hn.nodes
  have hnl := hn.links
  obtain ⟨all, h1, h2, h3, h4⟩ := arcs_spec hn hx hg hl hk (by omega)
  have b0 : BI n f x s ((List.replicate n.nodes.length false).set s.toNat true) (List.replicate n.nodes.length none) [s] := by
    have hlt : s.toNat < (List.replicate n.nodes.length false).length := by rw [List.length_replicate]; omega
    refine ⟨by simp, by simp, ?_, fun v hv => by rw [List.mem_singleton.1 hv]; exact hs, fun v hv => ?_, by simp, fun v hv => by rw [List.mem_singleton.1 hv]; exact .refl, ⟨by simp, rfl⟩, fun j j1 j2 => by simp at j2; omega⟩
    · have := count_set_true hlt (by rw [getD_of hlt]; simp)
      rw [List.count_replicate_self] at this
      rw [List.length_singleton]; omega
    · by_cases c : v = s.toNat
      · subst c
        rw [getD_set_eq hlt]
        simp; omega
      · rw [getD_set_ne (fun e => c e.symm), getD_of (by simpa using hv)]
        simp; omega
  obtain ⟨seen, by_, q, r1, r2, r3⟩ := reached_L0 (k := k) hn h2 (by omega) hk2 k 0 _ _ [s] (by simp) (by omega) b0 (fun j a hj => by omega)
  refine ⟨by_, seen, q, ?_, r2, fun a ha hf => ?_⟩
  · unfold sflow_reached_b
    rw [h1, Option.bind_some, if_pos (by omega), if_pos (by omega), if_pos hs, if_pos (by rw [List.length_replicate]; omega)]
    rw [show ((0 : Nat) : Int) = 0 from rfl, List.length_singleton] at r1
    rw [r1, Option.bind_some, if_pos r2.lb, if_pos r2.ls]
  · obtain ⟨b, b1, b2, b3⟩ := h3 a ha ha.1.2.1
    rw [← b3]
    exact r3 b b1 (by rw [b2]; exact hf)
end Go.Proofs.Ytfalnphlgfoflaa
