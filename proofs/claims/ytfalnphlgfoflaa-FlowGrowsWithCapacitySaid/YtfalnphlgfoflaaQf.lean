/- flow.Max: a flow that nothing more can be pushed on, and its cut. -/
import Derived.Test.YtfalnphlgfoflaaQe
namespace Go.Proofs.Ytfalnphlgfoflaa
open Go Go.RowKit
set_option linter.unusedSimpArgs false
set_option linter.unusedVariables false
theorem nodup_inj : ∀ {l : List Int}, l.Nodup → ∀ i j, i < l.length → j < l.length → l.getD i default = l.getD j default → i = j
  | x :: l, _, 0, 0, _, _, _ => rfl
  | x :: l, h, 0, j + 1, _, hj, e => by
    rw [List.nodup_cons] at h
    exact absurd (show x ∈ l by rw [show x = l.getD j default from e]; exact getD_mem (by simpa using hj)) h.1
  | x :: l, h, i + 1, 0, hi, _, e => by
    rw [List.nodup_cons] at h
    exact absurd (show x ∈ l by rw [show x = l.getD i default from e.symm]; exact getD_mem (by simpa using hi)) h.1
  | x :: l, h, i + 1, j + 1, hi, hj, e => by
    rw [List.nodup_cons] at h
    rw [nodup_inj h.2 i j (by simpa using hi) (by simpa using hj) e]
inductive CB (by_ : List (Option ArcU)) (s : Int) : Int → List ArcU → Prop
  | nil : CB by_ s s []
  | cons {t : Int} {a : ArcU} {p : List ArcU} : t ≠ s → 0 ≤ t → t < (by_.length : Int) → by_.getD t.toNat default = some a → CB by_ s a.frm p → CB by_ s t (a :: p)
theorem BI.chain {n : Net} {f : Failure} {x : List Int} {s : Int} {seen : List Bool} {by_ : List (Option ArcU)} {q : List Int} (h : BI n f x s seen by_ q) : ∀ j, j < q.length → ∃ p, CB by_ s (q.getD j default) p ∧ PathTo n s (q.getD j default) p ∧ (∀ a, a ∈ p → ArcOk n f x a) ∧ (∀ a, a ∈ p → ∃ i, 0 < i ∧ i ≤ j ∧ q.getD i default = a.to) ∧ (p.map (·.to)).Nodup ∧ p.length ≤ j := by
  intro j
  induction j using Nat.strongRecOn with
  | _ j ih =>
    intro hj
    by_cases c : j = 0
    · subst c
      rw [h.head.2]
      exact ⟨[], .nil, .nil, fun a ha => (by cases ha), fun a ha => (by cases ha), List.nodup_nil, by simp⟩
    · obtain ⟨a, a1, a2, a3, i, i1, i2⟩ := h.pre j (by omega) hj
      obtain ⟨p, p1, p2, p3, p4, p5, p6⟩ := ih i i1 (by omega)
      rw [i2] at p1 p2
      have hv := h.inr _ (getD_mem_int hj)
      refine ⟨a :: p, .cons (fun e => ?_) hv.1 (by rw [h.lb]; exact hv.2) a1 p1, a3 ▸ .cons a2.1 p2, fun b hb => ?_, fun b hb => ?_, ?_, by simp; omega⟩
      · have := nodup_inj h.nodup j 0 hj h.head.1 (e.trans h.head.2.symm)
        omega
      · rcases List.mem_cons.1 hb with rfl | hb
        · exact a2
        · exact p3 b hb
      · rcases List.mem_cons.1 hb with rfl | hb
        · exact ⟨j, by omega, Nat.le_refl _, a3.symm⟩
        · obtain ⟨i', z1, z2, z3⟩ := p4 b hb
          exact ⟨i', z1, by omega, z3⟩
      · rw [List.map_cons, List.nodup_cons]
        refine ⟨fun hm => ?_, p5⟩
        obtain ⟨b, b1, b2⟩ := List.mem_map.1 hm
        obtain ⟨i', z1, z2, z3⟩ := p4 b b1
        have := nodup_inj h.nodup i' j (by omega) hj (by rw [z3, ← a3]; exact b2)
        omega
theorem gx_of {α : Type} [Inhabited α] (l : List α) (i : Int) : gx l i = l.getD i.toNat default := rfl
theorem push_L0 {k : Nat} {by_ : List (Option ArcU)} {s : Int} : ∀ {p : List ArcU} {t : Int}, CB by_ s t p → ∀ (m : Nat) (amount : Int), p.length < m → sflow_pushU_b_L0 k by_ s m amount t = some (minP amount p)
  | [], _, .nil, 0, _, h => by simp at h
  | [], _, .nil, m + 1, amount, _ => by rw [sflow_pushU_b_L0, if_neg (by simp)]; rfl
  | a :: p, t, .cons _ _ _ _ _, 0, _, h => by simp at h
  | a :: p, t, .cons h1 h2 h3 h4 h5, m + 1, amount, h => by
    rw [sflow_pushU_b_L0, if_pos h1, if_pos ⟨h2, h3⟩, gx_of, h4, if_pos (show (some a).isSome = true from rfl)]
    exact push_L0 h5 m _ (by simpa using h)
theorem push_L1 {k : Nat} {n : Net} {by_ : List (Option ArcU)} {s amt : Int} {x : List Int} (h0 : 0 ≤ amt ∧ amt ≤ 8589934592) : ∀ {p : List ArcU} {t : Int}, CB by_ s t p → (∀ a, a ∈ p → EndOk n a ∧ 0 ≤ x.getD a.link.toNat default ∧ x.getD a.link.toNat default ≤ 8589934592) → (p.map (·.link)).Nodup → ∀ (m : Nat) (y : List Int), p.length < m → y.length = n.links.length → (∀ a, a ∈ p → y.getD a.link.toNat default = x.getD a.link.toNat default) → sflow_pushU_b_L1 k n.links.length by_ s amt m t y = some (augP amt p y)
  | [], _, .nil, _, _, 0, _, h, _, _ => by simp at h
  | [], _, .nil, _, _, m + 1, y, _, _, _ => by rw [sflow_pushU_b_L1, if_neg (by simp)]; rfl
  | a :: p, t, .cons _ _ _ _ _, _, _, 0, _, h, _, _ => by simp at h
  | a :: p, t, .cons h1 h2 h3 h4 h5, he, hnd, m + 1, y, h, hy, hxy => by
    rw [List.map_cons, List.nodup_cons] at hnd
    obtain ⟨e1, e2, e3⟩ := he a List.mem_cons_self
    have ey := hxy a List.mem_cons_self
    obtain ⟨l0, l1, _⟩ := id e1
    have hrest : ∀ y', y' = augA amt y a → sflow_pushU_b_L1 k n.links.length by_ s amt m a.frm y' = some (augP amt (a :: p) y) := fun y' hy' => by
      subst hy'
      refine push_L1 (x := x) h0 h5 (fun b hb => he b (List.mem_cons_of_mem _ hb)) hnd.2 m _ (by simpa using h) (by rw [augA_len]; exact hy) fun b hb => ?_
      rw [augA_ne (fun e => ?_)]
      · exact hxy b (List.mem_cons_of_mem _ hb)
      · have := (he b (List.mem_cons_of_mem _ hb)).1.1
        exact hnd.1 (List.mem_map.2 ⟨b, hb, by omega⟩)
    rw [sflow_pushU_b_L1, if_pos h1, if_pos ⟨h2, h3⟩, gx_of, h4, if_pos (show (some a).isSome = true from rfl)]
    rw [Option.getD_some]
    cases hb : a.back with
    | true =>
      rw [if_pos rfl]
      rw [if_pos ⟨l0, l1⟩, if_pos (show a.link.toNat < y.length by omega)]
      refine hrest _ ?_
      show y.set a.link.toNat (IntKind.i64.wrap (y.getD a.link.toNat default - amt)) = _
      rw [wr64 (by omega)]
      unfold augA
      rw [hb, if_pos rfl]
    | false =>
      rw [if_neg (by simp)]
      rw [if_pos ⟨l0, l1⟩, if_pos (show a.link.toNat < y.length by omega)]
      refine hrest _ ?_
      show y.set a.link.toNat (IntKind.i64.wrap (y.getD a.link.toNat default + amt)) = _
      rw [wr64 (by omega)]
      unfold augA
      rw [hb, if_neg (by simp)]
def cutS (seen : List Bool) : Nat → List Int
  | 0 => []
  | i + 1 => if seen.getD i default = true then cutS seen i ++ [(i : Int)] else cutS seen i
theorem cutS_len (seen : List Bool) : ∀ i, (cutS seen i).length ≤ i
  | 0 => by simp [cutS]
  | i + 1 => by
    have := cutS_len seen i
    unfold cutS
    split
    · rw [List.length_append, List.length_singleton]; omega
    · omega
theorem cutS_mem (seen : List Bool) (v : Int) : ∀ i, v ∈ cutS seen i ↔ ∃ j, j < i ∧ v = (j : Int) ∧ seen.getD j default = true
  | 0 => by simp [cutS]
  | i + 1 => by
    have ih := cutS_mem seen v i
    unfold cutS
    constructor
    · intro h
      split at h
      · rename_i c
        rcases List.mem_append.1 h with h | h
        · obtain ⟨j, a, b⟩ := ih.1 h; exact ⟨j, by omega, b⟩
        · exact ⟨i, by omega, List.mem_singleton.1 h, c⟩
      · obtain ⟨j, a, b⟩ := ih.1 h; exact ⟨j, by omega, b⟩
    · rintro ⟨j, a, b, c⟩
      by_cases e : j = i
      · subst e; rw [if_pos c]; exact List.mem_append_right _ (by rw [b]; simp)
      · have := ih.2 ⟨j, by omega, b, c⟩
        split
        · exact List.mem_append_left _ this
        · exact this
theorem cutS_ok {n : Net} (seen : List Bool) : ∀ i, i ≤ n.nodes.length → CutOk n (cutS seen i)
  | 0, _ => fun k hk => by simp [cutS] at hk
  | i + 1, hi => by
    have ih := cutS_ok (n := n) seen i (by omega)
    unfold cutS
    split
    · intro j hj
      rw [List.length_append, List.length_singleton] at hj
      by_cases c : j < (cutS seen i).length
      · obtain ⟨a, b⟩ := ih j c
        refine ⟨by rw [getD_app1 c]; exact a, fun h => ?_⟩
        rw [getD_app1 c, getD_app1 (by omega)]
        exact b h
      · have : j = (cutS seen i).length := by omega
        subst this
        refine ⟨by rw [getD_app2]; exact ⟨by omega, by omega⟩, fun h => ?_⟩
        rw [getD_app2, getD_app1 (by omega)]
        obtain ⟨w, w1, w2, _⟩ := (cutS_mem seen _ i).1 (getD_mem_int (l := cutS seen i) (i := (cutS seen i).length - 1) (by omega))
        rw [w2]; omega
    · exact ih
theorem Max_L1 {k : Nat} {rb : List (Option ArcU) × List Bool} (hl : rb.2.length ≤ 1000) : ∀ (m i : Nat), i ≤ rb.2.length → rb.2.length - i < m → sflow_Max_L1 k rb m (i : Int) (cutS rb.2 i) (cutS rb.2 i).length = some (cutS rb.2 rb.2.length, (cutS rb.2 rb.2.length).length) := by
  intro m
  induction m with
  | zero => intro i h1 h2; omega
  | succ m ih =>
    intro i h1 h2
    rw [sflow_Max_L1]
    by_cases c : (i : Int) < (rb.2.length : Int)
    · have hi : i < rb.2.length := by omega
      have := cutS_len rb.2 i
      have r := ih (i + 1) (by omega) (by omega)
      rw [if_pos c, if_pos ⟨by omega, c⟩, gx_nat rb.2 i, wr_succ i (by omega)]
      by_cases q : rb.2.getD i default = true
      · rw [if_pos q, if_pos (by omega)]
        have e : cutS rb.2 (i + 1) = cutS rb.2 i ++ [(i : Int)] := by rw [cutS, if_pos q]
        rw [e, List.length_append] at r
        exact r
      · rw [if_neg q]
        have e : cutS rb.2 (i + 1) = cutS rb.2 i := by rw [cutS, if_neg q]
        rw [e] at r
        exact r
    · rw [if_neg c]
      have : i = rb.2.length := by omega
      subst this
      rfl
def MaxOk (n : Net) (f : Failure) (s t : Int) (x c : List Int) : Prop := IsFlow n f s t x ∧ CutOk n c ∧ c.length ≤ n.nodes.length ∧ (∀ v, v ∈ c ↔ Reach n f x s v) ∧ t ∉ c ∧ ∃ seen : List Bool, c = cutS seen n.nodes.length ∧ ∀ v : Nat, v < n.nodes.length → (seen.getD v default = true ↔ Reach n f x s (v : Int))
theorem val_le {n : Net} {f : Failure} {s t : Int} {x : List Int} (hn : RightNet n) (h : IsFlow n f s t x) : exS n.links x s ≤ 25165824 := by
  have := exS_bound hn h.2.1 s n.links.length (Nat.le_refl _) h.2.2.1
  rw [List.take_of_length_le (Nat.le_refl _), List.take_of_length_le (by have := h.2.1; omega)] at this
  have := hn.links
  omega
theorem Max_L0 {k : Nat} {n : Net} {f : Failure} {s t : Int} (hn : RightNet n) (hs : isNodeP n s) (ht : isNodeP n t) (hne : s ≠ t) (hl : f.links.length < 9223372036854775808) (hk : f.links.length < k) (hk2 : 2000 < k) : ∀ (m : Nat) (x : List Int), IsFlow n f s t x → (25165824 - exS n.links x s).toNat < m → ∃ y c, sflow_Max_L0 k n f s t m x = some (y, c, 0) ∧ MaxOk n f s t y c := by
  have hnn := hn.nodes
  have hnl := hn.links
  intro m
  induction m with
  | zero => intro x hx h; omega
  | succ m ih =>
    intro x hx h
    obtain ⟨_, hxl, hg, h0, hv⟩ := id hx
    obtain ⟨by_, seen, q, r1, r2, r3⟩ := reached_spec hn hs hxl hg hl hk (by omega)
    rw [sflow_Max_L0, r1, Option.bind_some, if_pos ⟨ht.1, by rw [show (by_, seen).2.length = seen.length from rfl, r2.ls]; exact ht.2⟩, gx_of]
    have et : ((t.toNat : Nat) : Int) = t := by have := ht.1; omega
    have hmt := r2.mem t.toNat (by have := ht.2; omega)
    rw [et] at hmt
    by_cases c : seen.getD t.toNat default = true
    · rw [show (by_, seen).2 = seen from rfl, if_pos c]
      obtain ⟨j, j1, j2⟩ := mem_getD (hmt.1 c)
      obtain ⟨p, p1, p2, p3, p4, p5, p6⟩ := r2.chain j j1
      rw [j2] at p1 p2
      have hlen := r2.len
      have hsp : s ∉ p.map (·.to) := fun hm => by
        obtain ⟨b, b1, b2⟩ := List.mem_map.1 hm
        obtain ⟨i, z1, z2, z3⟩ := p4 b b1
        have := nodup_inj r2.nodup i 0 (by omega) r2.head.1 (by rw [z3, r2.head.2]; exact b2)
        omega
      have hroom : ∀ a, a ∈ p → 1 ≤ a.room := fun a ha => by
        obtain ⟨_, _, q3⟩ := p3 a ha
        rcases q3 with ⟨_, e, e2⟩ | ⟨_, e, e2⟩ <;> omega
      have hamt := minP_ge p 4294967296 (by omega) hroom
      have hle := minP_le p 4294967296
      have hpl : (p.map (·.link)).Nodup := path_links hn p2 p5 hsp
      obtain ⟨af1, af2⟩ := aug_flow (amt := minP 4294967296 p) hn hne hx p2 p3 p5 hsp hamt hle.2
      have e : sflow_pushU_b k n.links.length by_ s t 4294967296 x = some (minP 4294967296 p, augP (minP 4294967296 p) p x) := by
        unfold sflow_pushU_b
        rw [push_L0 p1 k _ (by omega), Option.bind_some, push_L1 (n := n) (x := x) (by omega) p1 (fun a ha => by
          have q1 := (p3 a ha).1
          obtain ⟨g1, g2, _⟩ := hg a.link.toNat (by have := q1.1; have := q1.2.1; omega)
          have := (hn.cap a.link.toNat (by have := q1.1; have := q1.2.1; omega)).2
          exact ⟨q1, g1, by omega⟩) hpl k x (by omega) hxl (fun _ _ => rfl), Option.bind_some]
      rw [show (by_, seen).1 = by_ from rfl, e, Option.bind_some, Option.bind_some, Sum.elim_inr]
      have hv := val_le hn af1
      exact ih (augP (minP 4294967296 p) p x) af1 (by omega)
    · rw [show (by_, seen).2 = seen from rfl, if_neg c]
      have e := Max_L1 (k := k) (rb := (by_, seen)) (by rw [show (by_, seen).2.length = seen.length from rfl, r2.ls]; omega) k 0 (by omega) (by rw [show (by_, seen).2.length = seen.length from rfl, r2.ls]; omega)
      rw [show cutS (by_, seen).2 0 = [] from rfl, List.length_nil, show ((0 : Nat) : Int) = 0 from rfl] at e
      rw [e, Option.bind_some, if_pos hxl, if_pos rfl, Option.bind_some, Sum.elim_inl]
      refine ⟨x, _, rfl, hx, cutS_ok _ _ (by show seen.length ≤ _; rw [r2.ls]; exact Nat.le_refl _), by have := cutS_len seen seen.length; rw [r2.ls] at this; show (cutS seen seen.length).length ≤ _; rw [r2.ls]; exact this, fun v => ?_, ?_, seen, by show cutS seen seen.length = _; rw [r2.ls], fun v hv => ?_⟩
      · show v ∈ cutS seen seen.length ↔ _
        rw [cutS_mem, r2.ls]
        constructor
        · rintro ⟨j, j1, rfl, j3⟩
          exact r2.reach _ ((r2.mem j j1).1 j3)
        · intro hr
          have hq : v ∈ q := reach_sub (C := (· ∈ q)) (fun a ha hf => r3 a ha hf) (by have := r2.head; rw [← this.2]; exact getD_mem_int this.1) hr
          have hv := r2.inr v hq
          exact ⟨v.toNat, by omega, by omega, (r2.mem v.toNat (by omega)).2 (by rw [show ((v.toNat : Nat) : Int) = v by omega]; exact hq)⟩
      · show t ∉ cutS seen seen.length
        rw [cutS_mem]
        rintro ⟨j, j1, rfl, j3⟩
        rw [Int.toNat_natCast] at c
        exact c j3
      · rw [r2.mem v hv]
        refine ⟨fun h => r2.reach _ h, fun hr => reach_sub (C := (· ∈ q)) (fun a ha hf => r3 a ha hf) (by have := r2.head; rw [← this.2]; exact getD_mem_int this.1) hr⟩
theorem exS_zeros : ∀ (ls : List Link) (k : Nat) (v : Int), exS ls (List.replicate k 0) v = 0
  | [], k, v => by simp [exS]
  | l :: ls, 0, v => by simp [exS]
  | l :: ls, k + 1, v => by
    have ih := exS_zeros ls k v
    unfold exS at ih ⊢
    rw [List.replicate_succ, List.zip_cons_cons, List.map_cons, List.sum_cons, ih]
    unfold contrib
    (repeat' split) <;> rfl
theorem zero_flow {n : Net} {f : Failure} {s t : Int} (hn : RightNet n) (hne : s ≠ t) : IsFlow n f s t (List.replicate n.links.length 0) := by
  refine ⟨hne, by simp, fun k hk => ?_, by rw [exS_zeros]; exact Int.le_refl _, fun v _ _ _ => exS_zeros _ _ _⟩
  have := (hn.cap k hk).1
  have e : (List.replicate n.links.length (0 : Int)).getD k default = 0 := by rw [getD_of (by simpa using hk)]; simp
  unfold GoodK
  rw [e]
  exact ⟨by omega, this, fun h => by omega⟩
def Two (n : Net) (s t : Int) : Prop := isNodeP n s ∧ isNodeP n t ∧ s ≠ t
theorem Max_spec {k : Nat} {n : Net} {f : Failure} (s t : Int) (hn : RightNet n) (hl : f.links.length < 9223372036854775808) (hk : f.links.length < k) (hk2 : 100000000 < k) : ∃ r, sflow_Max k n f s t = some r ∧ ((¬ Two n s t ∧ r = ([], [], 1)) ∨ (Two n s t ∧ r.2.2 = 0 ∧ MaxOk n f s t r.1 r.2.1)) := by
  have hnl := hn.links
  unfold sflow_Max
  rw [isNode_spec, Option.bind_some]
  by_cases c1 : isNodeP n s
  · rw [if_pos (decide_eq_true c1), isNode_spec, Option.bind_some]
    by_cases c2 : isNodeP n t
    · rw [if_pos (decide_eq_true c2), Option.bind_some]
      by_cases c3 : s = t
      · rw [if_pos (decide_eq_true c3)]
        exact ⟨_, rfl, .inl ⟨fun h => h.2.2 c3, rfl⟩⟩
      · rw [if_neg (by simpa using c3), if_pos (by omega)]
        obtain ⟨y, c, e1, e2⟩ := Max_L0 (k := k) hn c1 c2 c3 hl hk (by omega) k _ (zero_flow hn c3) (by rw [exS_zeros]; omega)
        exact ⟨_, e1, .inr ⟨⟨c1, c2, c3⟩, rfl, e2⟩⟩
    · rw [if_neg (by simpa using c2), Option.bind_some, if_pos rfl]
      exact ⟨_, rfl, .inl ⟨fun h => c2 h.2.1, rfl⟩⟩
  · rw [if_neg (by simpa using c1), Option.bind_some, if_pos rfl]
    exact ⟨_, rfl, .inl ⟨fun h => c1 h.1, rfl⟩⟩
end Go.Proofs.Ytfalnphlgfoflaa
