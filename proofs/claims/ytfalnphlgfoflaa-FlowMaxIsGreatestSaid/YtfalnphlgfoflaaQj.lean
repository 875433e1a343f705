/- The document's Max: a greatest flow, and the same cut. -/
import Derived.Test.YtfalnphlgfoflaaQi
namespace Go.Proofs.Ytfalnphlgfoflaa
open Go Go.RowKit
set_option linter.unusedSimpArgs false
set_option linter.unusedVariables false
theorem rpush_spec {k : Nat} {n : Net} {f : Failure} {s t : Int} {x : List Int} {seen : List Bool} {l : List Way} (hn : RightNet n) (hx : IsFlow n f s t x) (w : WI n f x s seen l) {j : Nat} (hj : j < l.length) (ht : (l.getD j default).node = t) (hk : 200 < k) : ∃ y, sr22_push k n x l (j : Int) = some y ∧ IsFlow n f s t y ∧ exS n.links x s + 1 ≤ exS n.links y s := by
  have hnn := hn.nodes
  have hnl := hn.links
  obtain ⟨hne, hxl, hg, h0, hv⟩ := id hx
  have hle := w.len
  obtain ⟨p, p1, p2, p3, p4, p5, p6, p7⟩ := w.chain j hj
  rw [ht] at p2
  have hj0 : 0 < j := by
    refine Nat.pos_of_ne_zero fun e => ?_
    subst e
    exact hne (w.head.2.1.symm.trans ht)
  have hsp : s ∉ p.map (·.to) := fun hm => by
    obtain ⟨b, b1, b2⟩ := List.mem_map.1 hm
    obtain ⟨i, z1, z2, z3⟩ := p4 b b1
    have := nodup_inj w.nodup i 0 (by simp; omega) (by simpa using w.head.1) (by rw [nodesW_getD (by omega), nodesW_getD w.head.1, z3, w.head.2.1]; exact b2)
    omega
  have hroom : ∀ a, a ∈ p → 1 ≤ a.room := fun a ha => by
    obtain ⟨_, _, q3⟩ := p3 a ha
    rcases q3 with ⟨_, e, e2⟩ | ⟨_, e, e2⟩ <;> omega
  have hin : ∀ a, a ∈ p → LinkIn n x a := fun a ha => by
    have q1 := (p3 a ha).1
    have q0 := q1.1
    have q2 := q1.2.1
    have := hg a.link.toNat (by omega)
    have c := hn.cap a.link.toNat (by omega)
    have g1 := this.1
    have g2 := this.2.1
    exact ⟨q1, g1, by omega, c.1, Int.le_trans c.2 (by omega)⟩
  obtain ⟨a1, a2⟩ := minW_ok (p7 hj0) hroom
  have hpl : (p.map (·.link)).Nodup := path_links hn p2 p5 hsp
  obtain ⟨af1, af2⟩ := aug_flow (amt := minW (-1) p) hn hne hx p2 p3 p5 hsp a1 a2
  have hub : minW (-1) p ≤ 8589934592 := by
    cases hp : p with
    | nil => exact absurd hp (p7 hj0)
    | cons b r =>
      rw [← hp]
      have hb : b ∈ p := by rw [hp]; exact List.mem_cons_self
      have := a2 b hb
      obtain ⟨_, g1, g2, g3, g4⟩ := hin b hb
      obtain ⟨_, _, q3⟩ := p3 b hb
      rcases q3 with ⟨_, e, e2⟩ | ⟨_, e, e2⟩ <;> omega
  have hpos : x.length ≠ 0 := fun e => by
    have := hin
    cases hp : p with
    | nil => exact absurd hp (p7 hj0)
    | cons b r =>
      have q := (p3 b (by rw [hp]; exact List.mem_cons_self)).1
      have := q.1
      have := q.2.1
      omega
  refine ⟨augP (minW (-1) p) p x, ?_, af1, by omega⟩
  unfold sr22_push
  rw [rpush_L0 hxl p1 hin k (-1) (by omega), Option.bind_some, if_pos (by omega), if_neg hpos, Option.bind_some]
  rw [rpush_L1 (x := x) (s3 := (x, x.length)) (by omega) hxl p1 hin hpl k x (by omega) hxl (fun _ _ => rfl), Option.bind_some, if_pos (by rw [augP_len])]
theorem rMax_skip {k : Nat} {n : Net} {t : Int} {l : List Way} (hl : l.length ≤ 1000) : ∀ (m i : Nat) (x : List Int) (b : Bool), i ≤ l.length → l.length - i < m → (∀ j, i ≤ j → j < l.length → (l.getD j default).node ≠ t) → sr22_Max_L1 k n t l m x b (i : Int) = some (x, b) := by
  intro m
  induction m with
  | zero => intro i x b h1 h2; omega
  | succ m ih =>
    intro i x b h1 h2 h3
    rw [sr22_Max_L1]
    by_cases c : (i : Int) < (l.length : Int)
    · rw [if_pos c, if_pos ⟨by omega, c⟩, gx_nat l i, if_neg (h3 i (Nat.le_refl _) (by omega)), wr_succ i (by omega)]
      exact ih (i + 1) x b (by omega) (by omega) fun j hj => h3 j (by omega)
    · rw [if_neg c]
theorem rMax_find {k : Nat} {n : Net} {t : Int} {l : List Way} (hl : l.length ≤ 1000) {j : Nat} (hj : j < l.length) (ht : (l.getD j default).node = t) (hu : ∀ i, i < l.length → (l.getD i default).node = t → i = j) : ∀ (m i : Nat) (x : List Int) (b : Bool), i ≤ j → l.length - i < m → sr22_Max_L1 k n t l m x b (i : Int) = (sr22_push k n x l (j : Int)).bind fun y => some (y, true) := by
  intro m
  induction m with
  | zero => intro i x b h1 h2; omega
  | succ m ih =>
    intro i x b h1 h2
    rw [sr22_Max_L1, if_pos (show (i : Int) < (l.length : Int) by omega), if_pos (show (0 : Int) ≤ (i : Int) ∧ (i : Int) < (l.length : Int) by omega), gx_nat l i, wr_succ i (by omega)]
    by_cases e : i = j
    · subst e
      rw [if_pos ht]
      congr 1
      funext y
      exact rMax_skip hl m (i + 1) y true (by omega) (by omega) fun i' h3 h4 h5 => by have := hu i' h4 h5; omega
    · rw [if_neg (fun q => e (hu i (by omega) q))]
      exact ih (i + 1) x b (by omega) (by omega)
theorem rMax_L0 {k : Nat} {n : Net} {f : Failure} {s t : Int} (hn : RightNet n) (hs : isNodeP n s) (hl : f.links.length < 9223372036854775808) (hk : f.links.length < k) (hk2 : 2000 < k) : ∀ (m : Nat) (x : List Int), IsFlow n f s t x → (25165824 - exS n.links x s).toNat + 1 < m → ∃ y, sr22_Max_L0 k n f s t m x true = some y ∧ IsFlow n f s t y ∧ ¬ Reach n f y s t := by
  have hnn := hn.nodes
  intro m
  induction m with
  | zero => intro x hx h; omega
  | succ m ih =>
    intro x hx h
    obtain ⟨l, seen, r1, r2, r3⟩ := ways_spec hn hs hx.2.1 hx.2.2.1 hl hk (by omega)
    have hle := r2.len
    rw [sr22_Max_L0, if_pos rfl, r1, Option.bind_some]
    by_cases c : t ∈ nodesW l
    · obtain ⟨wy, hw, e⟩ := List.mem_map.1 c
      obtain ⟨j, hj, e2⟩ := List.getElem_of_mem hw
      have ht : (l.getD j default).node = t := by rw [getD_of hj, e2]; exact e
      obtain ⟨y, y1, y2, y3⟩ := rpush_spec (k := k) hn hx r2 hj ht (by omega)
      have q := rMax_find (k := k) (n := n) (l := l) (by omega) hj ht (fun i hi hti => nodup_inj r2.nodup i j (by simpa using hi) (by simpa using hj) (by rw [nodesW_getD hi, nodesW_getD hj, hti, ht])) k 0 x false (by omega) (by omega)
      rw [show (0 : Int) = ((0 : Nat) : Int) from rfl, q, y1, Option.bind_some, Option.bind_some, Option.bind_some]
      have := val_le hn y2
      exact ih y y2 (by omega)
    · have q := rMax_skip (k := k) (n := n) (t := t) (l := l) (by omega) k 0 x false (by omega) (by omega) (fun j _ hj e => c (e ▸ node_mem hj))
      rw [show (0 : Int) = ((0 : Nat) : Int) from rfl, q, Option.bind_some, Option.bind_some]
      refine ⟨x, ?_, hx, fun hr => c ((r3 t).2 hr)⟩
      cases m with
      | zero => omega
      | succ m => rw [sr22_Max_L0, if_neg (by simp)]
theorem rCut_skip {k : Nat} {v : Int} {l : List Way} (hl : l.length ≤ 1000) : ∀ (m i : Nat) (c : List Int), i ≤ l.length → l.length - i < m → (∀ j, i ≤ j → j < l.length → (l.getD j default).node ≠ v) → sr22_Max_L3 k l v m (i : Int) c c.length = some (c, c.length) := by
  intro m
  induction m with
  | zero => intro i c h1 h2; omega
  | succ m ih =>
    intro i x h1 h2 h3
    rw [sr22_Max_L3]
    by_cases c : (i : Int) < (l.length : Int)
    · rw [if_pos c, if_pos ⟨by omega, c⟩, gx_nat l i, if_neg (h3 i (Nat.le_refl _) (by omega)), wr_succ i (by omega)]
      exact ih (i + 1) x (by omega) (by omega) fun j hj => h3 j (by omega)
    · rw [if_neg c]
theorem rCut_find {k : Nat} {v : Int} {l : List Way} (hl : l.length ≤ 1000) {j : Nat} (hj : j < l.length) (ht : (l.getD j default).node = v) (hu : ∀ i, i < l.length → (l.getD i default).node = v → i = j) : ∀ (m i : Nat) (c : List Int), c.length ≤ 1000 → i ≤ j → l.length - i < m → sr22_Max_L3 k l v m (i : Int) c c.length = some (c ++ [v], (c ++ [v]).length) := by
  intro m
  induction m with
  | zero => intro i c h0 h1 h2; omega
  | succ m ih =>
    intro i c h0 h1 h2
    rw [sr22_Max_L3, if_pos (show (i : Int) < (l.length : Int) by omega), if_pos (show (0 : Int) ≤ (i : Int) ∧ (i : Int) < (l.length : Int) by omega), gx_nat l i, wr_succ i (by omega)]
    by_cases e : i = j
    · subst e
      rw [if_pos ht, if_pos (by omega), show c.length + 1 = (c ++ [v]).length by simp]
      exact rCut_skip hl m (i + 1) _ (by omega) (by omega) fun i' h3 h4 h5 => by have := hu i' h4 h5; omega
    · rw [if_neg (fun q => e (hu i (by omega) q))]
      exact ih (i + 1) c h0 (by omega) (by omega)
theorem rMax_L2 {k : Nat} {n : Net} {f : Failure} {x : List Int} {s : Int} {seen : List Bool} {l : List Way} (hn : RightNet n) (w : WI n f x s seen l) (hk : 200 < k) : ∀ (m i : Nat), i ≤ n.nodes.length → n.nodes.length - i < m → sr22_Max_L2 k n l m (i : Int) (cutS seen i) (cutS seen i).length = some (cutS seen n.nodes.length, (cutS seen n.nodes.length).length) := by
  have hnn := hn.nodes
  have hle := w.len
  intro m
  induction m with
  | zero => intro i h1 h2; omega
  | succ m ih =>
    intro i h1 h2
    rw [sr22_Max_L2]
    by_cases c : (i : Int) < (n.nodes.length : Int)
    · have hc := cutS_len seen i
      have r := ih (i + 1) (by omega) (by omega)
      rw [if_pos c, wr_succ i (by omega)]
      have hm := w.mem i (by omega)
      by_cases q : seen.getD i default = true
      · obtain ⟨wy, hw, e⟩ := List.mem_map.1 (hm.1 q)
        obtain ⟨j, hj, e2⟩ := List.getElem_of_mem hw
        have ht : (l.getD j default).node = (i : Int) := by rw [getD_of hj, e2]; exact e
        have z := rCut_find (k := k) (v := (i : Int)) (l := l) (by omega) hj ht (fun i' hi hti => nodup_inj w.nodup i' j (by simpa using hi) (by simpa using hj) (by rw [nodesW_getD hi, nodesW_getD hj, hti, ht])) k 0 (cutS seen i) (by omega) (by omega) (by omega)
        rw [show (0 : Int) = ((0 : Nat) : Int) from rfl, z, Option.bind_some, Option.bind_some]
        have e : cutS seen (i + 1) = cutS seen i ++ [(i : Int)] := by rw [cutS, if_pos q]
        rw [e] at r
        exact r
      · have z := rCut_skip (k := k) (v := (i : Int)) (l := l) (by omega) k 0 (cutS seen i) (by omega) (by omega) (fun j _ hj e => q (hm.2 (e ▸ node_mem hj)))
        rw [show (0 : Int) = ((0 : Nat) : Int) from rfl, z, Option.bind_some, Option.bind_some]
        have e : cutS seen (i + 1) = cutS seen i := by rw [cutS, if_neg q]
        rw [e] at r
        exact r
    · rw [if_neg c]
      have : i = n.nodes.length := by omega
      subst this
      rfl
theorem rMax_spec {k : Nat} {n : Net} {f : Failure} (s t : Int) (hn : RightNet n) (hl : f.links.length < 9223372036854775808) (hk : f.links.length < k) (hk2 : 100000000 < k) : ∃ r, sr22_Max k n f s t = some r ∧ ((¬ Two n s t ∧ r = ([], [], 1)) ∨ (Two n s t ∧ r.2.2 = 0 ∧ MaxOk n f s t r.1 r.2.1)) := by
  have hnl := hn.links
  have hnn := hn.nodes
  unfold sr22_Max
  rw [risNode_spec, Option.bind_some, risNode_spec, Option.bind_some]
  by_cases c1 : isNodeP n s
  · rw [if_pos (decide_eq_true c1)]
    by_cases c2 : isNodeP n t
    · rw [if_pos (decide_eq_true c2), Option.bind_some]
      by_cases c3 : s = t
      · rw [if_pos (decide_eq_true c3)]
        exact ⟨_, rfl, .inl ⟨fun h => h.2.2 c3, rfl⟩⟩
      · rw [if_neg (by simpa using c3), if_pos (by omega)]
        obtain ⟨y, e1, e2, e3⟩ := rMax_L0 (k := k) (t := t) hn c1 hl hk (by omega) k _ (zero_flow hn c3) (by rw [exS_zeros]; omega)
        obtain ⟨l, seen, r1, r2, r3⟩ := ways_spec hn c1 e2.2.1 e2.2.2.1 hl hk (by omega)
        have q := rMax_L2 (k := k) hn r2 (by omega) k 0 (by omega) (by omega)
        rw [show cutS seen 0 = [] from rfl, List.length_nil, show ((0 : Nat) : Int) = 0 from rfl] at q
        rw [e1, Option.bind_some, r1, Option.bind_some, q, Option.bind_some, if_pos rfl]
        have hmem : ∀ v, v ∈ cutS seen n.nodes.length ↔ Reach n f y s v := fun v => by
          rw [cutS_mem, ← r3 v]
          constructor
          · rintro ⟨j, j1, rfl, j3⟩
            exact (r2.mem j j1).1 j3
          · intro hv
            have := r2.inr v hv
            exact ⟨v.toNat, by omega, by omega, (r2.mem v.toNat (by omega)).2 (by rw [show ((v.toNat : Nat) : Int) = v by omega]; exact hv)⟩
        refine ⟨_, rfl, .inr ⟨⟨c1, c2, c3⟩, rfl, e2, cutS_ok _ _ (Nat.le_refl _), cutS_len _ _, hmem, fun h => e3 ((hmem t).1 h), seen, rfl, fun v hv => ?_⟩⟩
        rw [r2.mem v hv, r3]
    · rw [if_neg (by simpa using c2), Option.bind_some, if_pos rfl]
      exact ⟨_, rfl, .inl ⟨fun h => c2 h.2.1, rfl⟩⟩
  · rw [if_neg (by simpa using c1), Option.bind_some, if_pos rfl]
    exact ⟨_, rfl, .inl ⟨fun h => c1 h.1, rfl⟩⟩
end Go.Proofs.Ytfalnphlgfoflaa
