/- The law FlowGrowsWithCapacity as a plain function: true for every input. -/
import Derived.Test.YtfalnphlgfoflaaQf
import Derived.Test.YtfalnphlgfoflaaQ4
import Derived.Test.YtfalnphlgfoflaaSL4
namespace Go.Proofs.Ytfalnphlgfoflaa
open Go Go.RowKit
set_option linter.unusedSimpArgs false
set_option linter.unusedVariables false
theorem closed_cut2 {n : Net} {f : Failure} {s : Int} {x c : List Int} (h : ∀ v, v ∈ c ↔ Reach n f x s v) : Closed n f x (· ∈ c) := fun a ha hf => (h _).2 (.step ((h _).1 hf) ha)
theorem MaxOk.val2 {n : Net} {f : Failure} {s t : Int} {x c : List Int} (hn : RightNet n) (ht : Two n s t) (h : MaxOk n f s t x c) : capS n f c n.links.length = exS n.links x s :=
  saturated hn ht.1 ht.2.1 ((h.2.2.2.1 s).2 .refl) h.2.2.2.2.1 h.1 (closed_cut2 h.2.2.2.1)
theorem MaxOk.le2 {n : Net} {f : Failure} {s t : Int} {x c y : List Int} (hn : RightNet n) (ht : Two n s t) (h : MaxOk n f s t x c) (hy : IsFlow n f s t y) : exS n.links y s ≤ exS n.links x s := by
  rw [← h.val2 hn ht]
  exact cut_bounds hn ht.1 ht.2.1 ((h.2.2.2.1 s).2 .refl) h.2.2.2.2.1 hy
def wider (n : Net) (j : Nat) : Net := ⟨n.nodes, n.links.set j { n.links.getD j default with cap := (n.links.getD j default).cap + 1 }, n.edges⟩
theorem wider_len {n : Net} {j : Nat} : (wider n j).links.length = n.links.length := by simp [wider]
theorem wider_at {n : Net} {j : Nat} (hj : j < n.links.length) (k : Nat) : ((wider n j).links.getD k default).frm = (n.links.getD k default).frm ∧ ((wider n j).links.getD k default).to = (n.links.getD k default).to ∧ ((wider n j).links.getD k default).cap = (n.links.getD k default).cap + (if k = j then 1 else 0) := by
  show ((n.links.set j _).getD k default).frm = _ ∧ ((n.links.set j _).getD k default).to = _ ∧ ((n.links.set j _).getD k default).cap = _
  by_cases c : k = j
  · subst c
    rw [getD_set_eq hj, if_pos rfl]; exact ⟨rfl, rfl, rfl⟩
  · rw [getD_set_ne (fun e => c e.symm), if_neg c]; exact ⟨rfl, rfl, by omega⟩
theorem wider_right {n : Net} {j : Nat} (hn : RightNet n) (hj : j < n.links.length) (hc : (n.links.getD j default).cap ≤ 1000) : RightNet (wider n j) := by
  refine ⟨hn.nodes, by rw [wider_len]; exact hn.links, fun k hk => ?_, fun k hk => ?_, fun k hk => ?_, fun k hk => ?_⟩ <;> rw [wider_len] at hk <;> obtain ⟨e1, e2, e3⟩ := wider_at hj k
  · rw [e1]; exact hn.frm k hk
  · rw [e2]; exact hn.to k hk
  · rw [e1, e2]; exact hn.apart k hk
  · rw [e3]
    have := hn.cap k hk
    by_cases c : k = j
    · subst c; rw [if_pos rfl]; omega
    · rw [if_neg c]; omega
theorem wider_up {n : Net} {j : Nat} (hj : j < n.links.length) (f : Failure) (k : Nat) : UpP (wider n j) f (k : Int) ↔ UpP n f (k : Int) := by
  obtain ⟨e1, e2, _⟩ := wider_at hj k
  unfold UpP
  rw [lnk_nat, lnk_nat, e1, e2]
theorem exS_same : ∀ {l m : List Link} {x : List Int} {v : Int}, l.length = m.length → (∀ k, k < l.length → (l.getD k default).frm = (m.getD k default).frm ∧ (l.getD k default).to = (m.getD k default).to) → exS l x v = exS m x v
  | [], [], _, _, _, _ => rfl
  | a :: l, b :: m, [], v, _, _ => by simp [exS]
  | a :: l, b :: m, y :: x, v, h, he => by
    have ih := exS_same (l := l) (m := m) (x := x) (v := v) (by simpa using h) (fun k hk => he (k + 1) (by simpa using hk))
    obtain ⟨e1, e2⟩ := he 0 (by simp)
    change a.frm = b.frm at e1
    change a.to = b.to at e2
    unfold exS at ih ⊢
    rw [List.zip_cons_cons, List.zip_cons_cons, List.map_cons, List.map_cons, List.sum_cons, List.sum_cons, ih]
    unfold contrib
    rw [e1, e2]
theorem wider_ex {n : Net} {j : Nat} (hj : j < n.links.length) (x : List Int) (v : Int) : exS (wider n j).links x v = exS n.links x v :=
  exS_same wider_len fun k _ => ⟨(wider_at hj k).1, (wider_at hj k).2.1⟩
theorem wider_flow {n : Net} {f : Failure} {s t : Int} {x : List Int} {j : Nat} (hj : j < n.links.length) (h : IsFlow n f s t x) : IsFlow (wider n j) f s t x := by
  obtain ⟨h1, h2, h3, h4, h5⟩ := h
  refine ⟨h1, by rw [wider_len]; exact h2, fun k hk => ?_, by rw [wider_ex hj]; exact h4, fun v hv a b => by rw [wider_ex hj]; exact h5 v hv a b⟩
  rw [wider_len] at hk
  obtain ⟨g1, g2, g3⟩ := h3 k hk
  refine ⟨g1, ?_, fun q => (wider_up hj f k).2 (g3 q)⟩
  rw [(wider_at hj k).2.2]
  split <;> omega
theorem wider_cap {n : Net} {f : Failure} {cut : List Int} {j : Nat} (hj : j < n.links.length) : ∀ i, capS (wider n j) f cut i ≤ capS n f cut i + (if j < i then 1 else 0)
  | 0 => by simp [capS]
  | i + 1 => by
    have ih := wider_cap (f := f) (cut := cut) hj i
    obtain ⟨e1, e2, e3⟩ := wider_at hj i
    have eu := wider_up hj f i
    have e : capTerm (wider n j) f cut i ≤ capTerm n f cut i + (if i = j then 1 else 0) := by
      unfold capTerm
      rw [e1, e2, e3]
      by_cases c : UpP n f (i : Int) ∧ (n.links.getD i default).frm ∈ cut ∧ (n.links.getD i default).to ∉ cut
      · rw [if_pos c, if_pos ⟨eu.2 c.1, c.2⟩]; exact Int.le_refl _
      · rw [if_neg c, if_neg (fun q => c ⟨eu.1 q.1, q.2⟩)]
        split <;> omega
    unfold capS
    by_cases c : i = j
    · subst c
      rw [if_pos rfl] at e
      rw [if_neg (by omega)] at ih
      rw [if_pos (by omega)]; omega
    · rw [if_neg c] at e
      by_cases d : j < i
      · rw [if_pos d] at ih
        rw [if_pos (by omega)]; omega
      · rw [if_neg d] at ih
        rw [if_neg (by omega)]; omega
theorem none_up {n : Net} {k : Nat} (hn : RightNet n) (hk : k < n.links.length) : UpP n ⟨[], -1⟩ (k : Int) := by
  have := hn.frm k hk
  have := hn.to k hk
  unfold UpP
  rw [lnk_nat]
  exact ⟨by simp, by show _ ≠ (-1 : Int); omega, by show _ ≠ (-1 : Int); omega⟩
theorem none_flow {n : Net} {f : Failure} {s t : Int} {x : List Int} (hn : RightNet n) (h : IsFlow n f s t x) : IsFlow n ⟨[], -1⟩ s t x := by
  obtain ⟨h1, h2, h3, h4, h5⟩ := h
  refine ⟨h1, h2, fun k hk => ?_, h4, h5⟩
  obtain ⟨g1, g2, _⟩ := h3 k hk
  exact ⟨g1, g2, fun _ => none_up hn hk⟩
theorem caps_L0 {k : Nat} {n : Net} (hl : n.links.length ≤ 1000) : ∀ (m i : Nat), i ≤ n.links.length → n.links.length - i < m → (∀ j, j < i → (n.links.getD j default).cap ≤ 1000) → sl_FlowGrowsWithCapacity_L0 k n m (i : Int) = some (.inl true) ∨ (sl_FlowGrowsWithCapacity_L0 k n m (i : Int) = some (.inr ()) ∧ ∀ j, j < n.links.length → (n.links.getD j default).cap ≤ 1000) := by
  intro m
  induction m with
  | zero => intro i h1 h2; omega
  | succ m ih =>
    intro i h1 h2 h3
    rw [sl_FlowGrowsWithCapacity_L0]
    by_cases c : (i : Int) < (n.links.length : Int)
    · rw [if_pos c, if_pos ⟨by omega, c⟩, gx_nat n.links i]
      by_cases q : 1000 < (n.links.getD i default).cap
      · rw [if_pos q]; exact .inl rfl
      · rw [if_neg q, wr_succ i (by omega)]
        exact ih (i + 1) (by omega) (by omega) fun j hj => by
          rcases Nat.lt_succ_iff_lt_or_eq.1 hj with z | z
          · exact h3 j z
          · rw [z]; omega
    · rw [if_neg c]
      have : i = n.links.length := by omega
      subst this
      exact .inr ⟨rfl, h3⟩
theorem law_Grows (n : Net) (f : Failure) (a b link : Int) (hl : f.links.length < 9223372036854775808) (hh : Held n) : ∃ k, sl_FlowGrowsWithCapacity k n f a b link = some true := by
  refine ⟨9223372036854775808, ?_⟩
  generalize hk : 9223372036854775808 = k
  have hk : 9223372036854775808 ≤ k := by omega
  unfold sl_FlowGrowsWithCapacity
  obtain ⟨r, h1, h2⟩ := right_spec hk n f a b hl hh
  rw [h1, Option.bind_some]
  by_cases hr : r = true
  · rw [if_pos hr]
    obtain ⟨hn, hfl, ha, hb⟩ := h2 hr
    have hnl := hn.links
    have hnn := hn.nodes
    have hfk : f.links.length < k := by omega
    by_cases c1 : a = b
    · rw [if_pos c1]; rfl
    by_cases c2 : link < 0
    · rw [if_neg c1, if_pos c2]; rfl
    by_cases c3 : (n.links.length : Int) ≤ link
    · rw [if_neg c1, if_neg c2, Option.bind_some, if_pos (decide_eq_true c3)]
    rw [if_neg c1, if_neg c2, Option.bind_some, if_neg (by simpa using c3)]
    rcases caps_L0 (k := k) (n := n) (by omega) k 0 (by omega) (by omega) (fun j hj => by omega) with e | ⟨e, hcap⟩
    · rw [show (0 : Int) = ((0 : Nat) : Int) from rfl, e, Option.bind_some, Sum.elim_inl]
    · rw [show ((0 : Nat) : Int) = 0 from rfl] at e
      rw [e, Option.bind_some, Sum.elim_inr, if_pos (by omega), if_neg (by omega), Option.bind_some]
      obtain ⟨j, rfl⟩ : ∃ j : Nat, link = (j : Int) := ⟨link.toNat, by omega⟩
      have hj : j < n.links.length := by omega
      have hcj := hcap j hj
      have hc0 := hn.cap j hj
      rw [if_pos (show (0 : Int) ≤ (j : Int) ∧ (j : Int) < ((n.links, n.links.length).2 : Int) from ⟨by omega, by show (j : Int) < (n.links.length : Int); omega⟩), Int.toNat_natCast, if_pos (show j < (n.links, n.links.length).1.length from hj)]
      have ht : Two n a b := ⟨ha, hb, c1⟩
      obtain ⟨u, u1, u2⟩ := Max_spec (k := k) (f := f) a b hn hl hfk (by omega)
      rw [u1, Option.bind_some, if_pos (by simp)]
      rw [show IntKind.i64.wrap (((n.links, n.links.length).1.getD j default).cap + 1) = (n.links.getD j default).cap + 1 from wr64 (by show -9223372036854775808 ≤ (n.links.getD j default).cap + 1 ∧ (n.links.getD j default).cap + 1 ≤ 9223372036854775807; omega)]
      rw [show (⟨n.nodes, (n.links, n.links.length).1.set j { (n.links, n.links.length).1.getD j default with cap := (n.links.getD j default).cap + 1 }, n.edges⟩ : Net) = wider n j from rfl]
      have hw := wider_right hn hj hcj
      have htw : Two (wider n j) a b := ⟨ha, hb, c1⟩
      obtain ⟨w, w1, w2⟩ := Max_spec (k := k) (f := f) a b hw hl hfk (by omega)
      rw [w1, Option.bind_some]
      obtain ⟨z, z1, z2⟩ := Max_spec (k := k) (f := ⟨[], -1⟩) a b hn (by simp) (by simp; omega) (by omega)
      rw [z1, Option.bind_some]
      rcases u2 with ⟨g, _⟩ | ⟨_, ue, uo⟩
      · exact absurd ht g
      rcases w2 with ⟨g, _⟩ | ⟨_, we, wo⟩
      · exact absurd htw g
      rcases z2 with ⟨g, _⟩ | ⟨_, ze, zo⟩
      · exact absurd ht g
      have U := uo.1
      have W := wo.1
      have Z := zo.1
      rw [Check_spec hn ha hb hl hfk (by omega), Option.bind_some, Check_spec hw ha hb hl hfk (by omega), Option.bind_some, Check_spec hn ha hb (by simp) (by simp; omega) (by omega), Option.bind_some]
      rw [if_pos ue, if_pos we, if_pos ze, if_pos (decide_eq_true U), if_pos (decide_eq_true W), if_pos (decide_eq_true Z)]
      have v1 : flowVal n f a b u.1 = exS n.links u.1 a := by unfold flowVal; rw [if_pos U]
      have v2 : flowVal (wider n j) f a b w.1 = exS n.links w.1 a := by unfold flowVal; rw [if_pos W, wider_ex hj]
      have v3 : flowVal n ⟨[], -1⟩ a b z.1 = exS n.links z.1 a := by unfold flowVal; rw [if_pos Z]
      have b0 := val_le hn U
      have b1 := wo.le2 hw htw (wider_flow hj U)
      rw [wider_ex hj, wider_ex hj] at b1
      have b2 := cut_bounds hw ha hb ((uo.2.2.2.1 a).2 .refl) uo.2.2.2.2.1 W
      rw [wider_ex hj, wider_len] at b2
      have b3 := wider_cap (f := f) (cut := u.2.1) hj n.links.length
      rw [if_pos hj, uo.val2 hn ht] at b3
      have b4 := zo.le2 hn ht (none_flow hn U)
      have b5 := U.2.2.2.1
      show (if flowVal (wider n j) f a b w.1 = flowVal n f a b u.1 then some (decide (flowVal n f a b u.1 ≤ flowVal n ⟨[], -1⟩ a b z.1)) else (if flowVal (wider n j) f a b w.1 = IntKind.i64.wrap (flowVal n f a b u.1 + 1) then some (decide (flowVal n f a b u.1 ≤ flowVal n ⟨[], -1⟩ a b z.1)) else some false)) = some true
      rw [v1, v2, v3, wr64 (by omega), decide_eq_true b4]
      by_cases q : exS n.links w.1 a = exS n.links u.1 a
      · rw [if_pos q]
      · rw [if_neg q, if_pos (by omega)]
  · rw [if_neg hr]; rfl
end Go.Proofs.Ytfalnphlgfoflaa
