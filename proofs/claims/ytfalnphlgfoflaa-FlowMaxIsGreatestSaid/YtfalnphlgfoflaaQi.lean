/- The document's ways and push: what they give. -/
import Derived.Test.YtfalnphlgfoflaaQh
namespace Go.Proofs.Ytfalnphlgfoflaa
open Go Go.RowKit
set_option linter.unusedSimpArgs false
set_option linter.unusedVariables false
theorem ways_L0 {k : Nat} {n : Net} {f : Failure} {x : List Int} {s : Int} (hn : RightNet n) (hx : x.length = n.links.length) (hg : ∀ j, j < n.links.length → GoodK n f x j) (hl : f.links.length < 9223372036854775808) (hk : f.links.length < k) (hk2 : 200 < k) : ∀ (m i : Nat) (l : List Way) (seen : List Bool), i ≤ l.length → n.nodes.length - i < m → WI n f x s seen l → (∀ i', i' < i → Done n f x i' n.links.length l) →
    ∃ l' seen', sr22_ways_L0 k n f x m (i : Int) l l.length seen = some (l', l'.length, seen') ∧ WI n f x s seen' l' ∧ ∀ i', i' < l'.length → Done n f x i' n.links.length l' := by
  have hnn := hn.nodes
  have hnl := hn.links
  intro m
  induction m with
  | zero => intro i l seen h1 h2; omega
  | succ m ih =>
    intro i l seen h1 h2 h3 h4
    have hle := h3.len
    rw [sr22_ways_L0]
    by_cases c : (i : Int) < (l.length : Int)
    · have hi : i < l.length := by omega
      obtain ⟨l', seen', e1, e2, ⟨r, e3⟩, e4⟩ := ways_L1 (k := k) hn hx hg hl hk k 0 l seen (by omega) (by omega) h3 hi (fun a ha hlk => by have := ha.1.1; omega)
      rw [if_pos c, show (0 : Int) = ((0 : Nat) : Int) from rfl, e1, Option.bind_some, Option.bind_some, wr_succ i (by omega)]
      refine ih (i + 1) l' seen' (by rw [e3, List.length_append]; omega) (by omega) e2 (fun i' hi' a ha hlk hf => ?_)
      by_cases q : i' = i
      · subst q; exact e4 a ha hlk hf
      · rw [e3, getD_appl (by omega)] at hf
        rw [e3]
        exact nodesW_app (h4 i' (by omega) a ha hlk hf)
    · rw [if_neg c]
      have : i = l.length := by omega
      subst this
      exact ⟨l, seen, rfl, h3, h4⟩
theorem ways_spec {k : Nat} {n : Net} {f : Failure} {x : List Int} {s : Int} (hn : RightNet n) (hs : isNodeP n s) (hx : x.length = n.links.length) (hg : ∀ j, j < n.links.length → GoodK n f x j) (hl : f.links.length < 9223372036854775808) (hk : f.links.length < k) (hk2 : 200 < k) : ∃ l seen, sr22_ways k n f s x = some l ∧ WI n f x s seen l ∧ ∀ v, v ∈ nodesW l ↔ Reach n f x s v := by
  have hnn := hn.nodes
  have hs0 := hs.1
  have hs1 := hs.2
  have w0 : WI n f x s ((List.replicate n.nodes.length false).set s.toNat true) [(⟨s, (-1), 0, false⟩ : Way)] := by
    have hlt : s.toNat < (List.replicate n.nodes.length false).length := by rw [List.length_replicate]; omega
    refine ⟨by simp, ?_, fun v hv => by rw [List.mem_singleton.1 hv]; exact ⟨hs0, hs1⟩, fun v hv => ?_, by simp, fun v hv => by rw [List.mem_singleton.1 hv]; exact .refl, ⟨by simp, rfl, by show (-1 : Int) < 0; omega⟩, fun j j1 j2 => by simp at j2; omega⟩
    · have := count_set_true hlt (by rw [getD_of hlt]; simp)
      rw [List.count_replicate_self] at this
      rw [List.length_singleton]; omega
    · by_cases c : v = s.toNat
      · subst c
        rw [getD_set_eq hlt]
        simp; omega
      · rw [getD_set_ne (fun e => c e.symm), getD_of (by simpa using hv)]
        simp; omega
  obtain ⟨l, seen, r1, r2, r3⟩ := ways_L0 (k := k) hn hx hg hl hk hk2 k 0 _ _ (by simp) (by omega) w0 (fun i hi => by omega)
  refine ⟨l, seen, ?_, r2, fun v => ⟨fun h => r2.reach v h, fun h => ?_⟩⟩
  · unfold sr22_ways
    rw [if_pos (by omega), if_pos ⟨hs0, hs1⟩, if_pos (by rw [List.length_replicate]; omega)]
    rw [show ((0 : Nat) : Int) = 0 from rfl, List.length_singleton] at r1
    rw [r1, Option.bind_some, if_pos rfl]
  · refine reach_sub (C := (· ∈ nodesW l)) (fun a ha hf => ?_) ?_ h
    · obtain ⟨w, hw, e⟩ := List.mem_map.1 hf
      obtain ⟨j, hj, e2⟩ := List.getElem_of_mem hw
      exact r3 j hj a ha ha.1.2.1 (by rw [getD_of hj, e2]; exact e.symm)
    · rw [← r2.head.2.1]; exact node_mem r2.head.1
inductive CW (n : Net) (x : List Int) (l : List Way) : Int → List ArcU → Prop
  | nil {i : Int} : 0 ≤ i → i < (l.length : Int) → (l.getD i.toNat default).before < 0 → CW n x l i []
  | cons {i : Int} {p : List ArcU} : 0 ≤ i → i < (l.length : Int) → 0 ≤ (l.getD i.toNat default).before → CW n x l (l.getD i.toNat default).before p → CW n x l i (wArc n x l (l.getD i.toNat default) :: p)
theorem WI.chain {n : Net} {f : Failure} {x : List Int} {s : Int} {seen : List Bool} {l : List Way} (h : WI n f x s seen l) : ∀ j, j < l.length → ∃ p, CW n x l (j : Int) p ∧ PathTo n s (l.getD j default).node p ∧ (∀ a, a ∈ p → ArcOk n f x a) ∧ (∀ a, a ∈ p → ∃ i, 0 < i ∧ i ≤ j ∧ (l.getD i default).node = a.to) ∧ (p.map (·.to)).Nodup ∧ p.length ≤ j ∧ (0 < j → p ≠ []) := by
  intro j
  induction j using Nat.strongRecOn with
  | _ j ih =>
    intro hj
    by_cases c : j = 0
    · subst c
      rw [h.head.2.1]
      exact ⟨[], .nil (by omega) (by simpa using hj) h.head.2.2, .nil, fun a ha => (by cases ha), fun a ha => (by cases ha), List.nodup_nil, by simp, fun h => (by omega)⟩
    · obtain ⟨a1, a2, a3⟩ := h.pre j (by omega) hj
      obtain ⟨p, p1, p2, p3, p4, p5, p6, p7⟩ := ih (l.getD j default).before.toNat (by omega) (by omega)
      have e0 : (((l.getD j default).before.toNat : Nat) : Int) = (l.getD j default).before := by omega
      rw [e0] at p1
      have hcw : CW n x l (j : Int) (wArc n x l (l.getD j default) :: p) := by
        have := CW.cons (n := n) (x := x) (l := l) (i := (j : Int)) (p := p) (by omega) (by omega) (by rw [Int.toNat_natCast]; exact a1) (by rw [Int.toNat_natCast]; exact p1)
        rw [Int.toNat_natCast] at this
        exact this
      refine ⟨_, hcw, PathTo.cons (a := wArc n x l (l.getD j default)) a3.1 p2, fun b hb => ?_, fun b hb => ?_, ?_, by simp; omega, fun _ => by simp⟩
      · rcases List.mem_cons.1 hb with rfl | hb
        · exact a3
        · exact p3 b hb
      · rcases List.mem_cons.1 hb with rfl | hb
        · exact ⟨j, by omega, Nat.le_refl _, rfl⟩
        · obtain ⟨i', z1, z2, z3⟩ := p4 b hb
          exact ⟨i', z1, by omega, z3⟩
      · rw [List.map_cons, List.nodup_cons]
        refine ⟨fun hm => ?_, p5⟩
        obtain ⟨b, b1, b2⟩ := List.mem_map.1 hm
        obtain ⟨i', z1, z2, z3⟩ := p4 b b1
        have := nodup_inj h.nodup i' j (by simp; omega) (by simp; omega) (by rw [nodesW_getD (by omega), nodesW_getD hj, z3]; exact b2)
        omega
def minW (least : Int) (p : List ArcU) : Int := p.foldl (fun m a => if m < 0 then a.room else if a.room < m then a.room else m) least
theorem minW_pos : ∀ (p : List ArcU) (least : Int), 1 ≤ least → (∀ a, a ∈ p → 1 ≤ a.room) → 1 ≤ minW least p ∧ minW least p ≤ least ∧ ∀ a, a ∈ p → minW least p ≤ a.room
  | [], least, h, _ => ⟨h, Int.le_refl _, fun a ha => by cases ha⟩
  | b :: p, least, h, hr => by
    have hb := hr b List.mem_cons_self
    have e : minW least (b :: p) = minW (if least < 0 then b.room else if b.room < least then b.room else least) p := rfl
    rw [e, if_neg (by omega)]
    have hz : 1 ≤ (if b.room < least then b.room else least) ∧ (if b.room < least then b.room else least) ≤ least ∧ (if b.room < least then b.room else least) ≤ b.room := by split <;> omega
    generalize (if b.room < least then b.room else least) = z at hz
    obtain ⟨h1, h2, h3⟩ := minW_pos p z hz.1 fun a ha => hr a (List.mem_cons_of_mem _ ha)
    refine ⟨h1, by omega, fun a ha => ?_⟩
    rcases List.mem_cons.1 ha with rfl | ha
    · omega
    · exact h3 a ha
theorem minW_ok {p : List ArcU} (hp : p ≠ []) (hr : ∀ a, a ∈ p → 1 ≤ a.room) : 1 ≤ minW (-1) p ∧ ∀ a, a ∈ p → minW (-1) p ≤ a.room := by
  cases p with
  | nil => exact absurd rfl hp
  | cons b p =>
    have hb := hr b List.mem_cons_self
    have e : minW (-1) (b :: p) = minW b.room p := rfl
    rw [e]
    obtain ⟨h1, h2, h3⟩ := minW_pos p b.room hb fun a ha => hr a (List.mem_cons_of_mem _ ha)
    refine ⟨h1, fun a ha => ?_⟩
    rcases List.mem_cons.1 ha with rfl | ha
    · exact h2
    · exact h3 a ha
def LinkIn (n : Net) (x : List Int) (a : ArcU) : Prop := EndOk n a ∧ 0 ≤ x.getD a.link.toNat default ∧ x.getD a.link.toNat default ≤ 8589934592 ∧ 0 ≤ (lnk n a.link).cap ∧ (lnk n a.link).cap ≤ 8589934592
theorem rpush_L0 {k : Nat} {n : Net} {x : List Int} {l : List Way} (hx : x.length = n.links.length) : ∀ {p : List ArcU} {i : Int}, CW n x l i p → (∀ a, a ∈ p → LinkIn n x a) → ∀ (m : Nat) (least : Int), p.length < m → sr22_push_L0 k n x l m least i = some (minW least p)
  | [], _, .nil _ _ _, _, 0, _, h => by simp at h
  | [], _, .nil h1 h2 h3, _, m + 1, least, _ => by rw [sr22_push_L0, if_pos ⟨h1, h2⟩, gx_of, if_neg (by omega)]; rfl
  | _ :: p, _, .cons _ _ _ _, _, 0, _, h => by simp at h
  | _ :: p, i, .cons h1 h2 h3 h4, he, m + 1, least, h => by
    obtain ⟨e1, e2, e3, e4, e5⟩ := he _ List.mem_cons_self
    have hrest := fun lst => rpush_L0 (k := k) hx h4 (fun a ha => he a (List.mem_cons_of_mem _ ha)) m lst (by simpa using h)
    rw [sr22_push_L0, if_pos ⟨h1, h2⟩]
    rw [gx_of l i]
    generalize hw : l.getD i.toNat default = w at *
    obtain ⟨l0, l1, _⟩ := id e1
    change 0 ≤ w.link at l0
    change w.link < (n.links.length : Int) at l1
    rw [if_pos h3, if_pos ⟨l0, l1⟩, if_pos ⟨l0, by omega⟩]
    have er : ((if w.back = true then some (gx x w.link) else some (IntKind.i64.wrap ((gx n.links w.link).cap - gx x w.link))) : Option Int) = some (wArc n x l w).room := by
      unfold wArc
      by_cases hb : w.back = true
      · rw [if_pos hb, if_pos hb]; rfl
      · rw [if_neg hb, if_neg hb]
        change 0 ≤ x.getD w.link.toNat default at e2
        change x.getD w.link.toNat default ≤ 8589934592 at e3
        change 0 ≤ (lnk n w.link).cap at e4
        change (lnk n w.link).cap ≤ 8589934592 at e5
        show some (IntKind.i64.wrap ((lnk n w.link).cap - x.getD w.link.toNat default)) = _
        rw [wr64 (by omega)]
    rw [er, Option.bind_some]
    have em : minW least (wArc n x l w :: p) = minW (if least < 0 then (wArc n x l w).room else if (wArc n x l w).room < least then (wArc n x l w).room else least) p := rfl
    rw [em]
    by_cases q1 : least < 0
    · rw [if_pos q1, if_pos q1]; exact hrest _
    · rw [if_neg q1, if_neg q1]
      by_cases q2 : (wArc n x l w).room < least
      · rw [if_pos q2, if_pos q2]; exact hrest _
      · rw [if_neg q2, if_neg q2]; exact hrest _
theorem rpush_L1 {k : Nat} {n : Net} {x : List Int} {l : List Way} {amt : Int} {s3 : List Int × Nat} (h0 : 0 ≤ amt ∧ amt ≤ 8589934592) (hs3 : s3.2 = n.links.length) : ∀ {p : List ArcU} {i : Int}, CW n x l i p → (∀ a, a ∈ p → LinkIn n x a) → (p.map (·.link)).Nodup → ∀ (m : Nat) (y : List Int), p.length < m → y.length = n.links.length → (∀ a, a ∈ p → y.getD a.link.toNat default = x.getD a.link.toNat default) → sr22_push_L1 k l amt s3 m i y = some (augP amt p y)
  | [], _, .nil _ _ _, _, _, 0, _, h, _, _ => by simp at h
  | [], _, .nil h1 h2 h3, _, _, m + 1, y, _, _, _ => by rw [sr22_push_L1, if_pos ⟨h1, h2⟩, gx_of, if_neg (by omega)]; rfl
  | _ :: p, _, .cons _ _ _ _, _, _, 0, _, h, _, _ => by simp at h
  | _ :: p, i, .cons h1 h2 h3 h4, he, hnd, m + 1, y, h, hy, hxy => by
    rw [List.map_cons, List.nodup_cons] at hnd
    obtain ⟨e1, e2, e3, _⟩ := he _ List.mem_cons_self
    have ey := hxy _ List.mem_cons_self
    have hrest : ∀ y', y' = augA amt y (wArc n x l (l.getD i.toNat default)) → sr22_push_L1 k l amt s3 m (l.getD i.toNat default).before y' = some (augP amt (wArc n x l (l.getD i.toNat default) :: p) y) := fun y' hy' => by
      subst hy'
      refine rpush_L1 (x := x) h0 hs3 h4 (fun b hb => he b (List.mem_cons_of_mem _ hb)) hnd.2 m _ (by simpa using h) (by rw [augA_len]; exact hy) fun b hb => ?_
      rw [augA_ne (fun e => ?_)]
      · exact hxy b (List.mem_cons_of_mem _ hb)
      · have := (he b (List.mem_cons_of_mem _ hb)).1.1
        have := e1.1
        exact hnd.1 (List.mem_map.2 ⟨b, hb, by omega⟩)
    rw [sr22_push_L1, if_pos ⟨h1, h2⟩, gx_of]
    generalize hw : l.getD i.toNat default = w at *
    obtain ⟨l0, l1, _⟩ := id e1
    change 0 ≤ w.link at l0
    change w.link < (n.links.length : Int) at l1
    change 0 ≤ x.getD w.link.toNat default at e2
    change x.getD w.link.toNat default ≤ 8589934592 at e3
    change y.getD w.link.toNat default = x.getD w.link.toNat default at ey
    rw [if_pos h3]
    cases hb : w.back with
    | true =>
      rw [if_pos rfl, if_pos ⟨l0, by rw [hs3]; exact l1⟩, if_pos (by omega), wr64 (by omega)]
      refine hrest _ ?_
      unfold augA
      show _ = y.set w.link.toNat (if w.back = true then _ else _)
      rw [if_pos hb]; rfl
    | false =>
      rw [if_neg (by simp), if_pos ⟨l0, by rw [hs3]; exact l1⟩, if_pos (by omega), wr64 (by omega)]
      refine hrest _ ?_
      unfold augA
      show _ = y.set w.link.toNat (if w.back = true then _ else _)
      rw [if_neg (by rw [hb]; simp)]; rfl
end Go.Proofs.Ytfalnphlgfoflaa
