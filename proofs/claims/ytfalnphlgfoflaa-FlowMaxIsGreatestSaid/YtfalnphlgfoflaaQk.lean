/- The law FlowMaxIsGreatest as a plain function: true for every input. -/
import Derived.Test.YtfalnphlgfoflaaQj
import Derived.Test.YtfalnphlgfoflaaQ4
import Derived.Test.YtfalnphlgfoflaaSL3
namespace Go.Proofs.Ytfalnphlgfoflaa
open Go Go.RowKit
set_option linter.unusedSimpArgs false
set_option linter.unusedVariables false
theorem closed_cut {n : Net} {f : Failure} {s : Int} {x c : List Int} (h : ∀ v, v ∈ c ↔ Reach n f x s v) : Closed n f x (· ∈ c) := fun a ha hf => (h _).2 (.step ((h _).1 hf) ha)
theorem MaxOk.val {n : Net} {f : Failure} {s t : Int} {x c : List Int} (hn : RightNet n) (ht : Two n s t) (h : MaxOk n f s t x c) : capS n f c n.links.length = exS n.links x s :=
  saturated hn ht.1 ht.2.1 ((h.2.2.2.1 s).2 .refl) h.2.2.2.2.1 h.1 (closed_cut h.2.2.2.1)
theorem MaxOk.le {n : Net} {f : Failure} {s t : Int} {x c y : List Int} (hn : RightNet n) (ht : Two n s t) (h : MaxOk n f s t x c) (hy : IsFlow n f s t y) : exS n.links y s ≤ exS n.links x s := by
  rw [← h.val hn ht]
  exact cut_bounds hn ht.1 ht.2.1 ((h.2.2.2.1 s).2 .refl) h.2.2.2.2.1 hy
theorem cutS_congr {a b : List Bool} : ∀ i, (∀ v, v < i → (a.getD v default = true ↔ b.getD v default = true)) → cutS a i = cutS b i
  | 0, _ => rfl
  | i + 1, h => by
    have ih := cutS_congr i fun v hv => h v (by omega)
    have hi := h i (by omega)
    unfold cutS
    rw [ih]
    by_cases c : a.getD i default = true
    · rw [if_pos c, if_pos (hi.1 c)]
    · rw [if_neg c, if_neg (fun q => c (hi.2 q))]
theorem MaxOk.uniq {n : Net} {f : Failure} {s t : Int} {x c y d : List Int} (hn : RightNet n) (ht : Two n s t) (h : MaxOk n f s t x c) (k : MaxOk n f s t y d) : c = d := by
  have e1 := h.le hn ht k.1
  have e2 := k.le hn ht h.1
  have hv := h.val hn ht
  have kv := k.val hn ht
  have c1 := tight hn ht.1 ht.2.1 ((h.2.2.2.1 s).2 .refl) h.2.2.2.2.1 k.1 (by omega)
  have c2 := tight hn ht.1 ht.2.1 ((k.2.2.2.1 s).2 .refl) k.2.2.2.2.1 h.1 (by omega)
  have r1 : ∀ v, Reach n f y s v → Reach n f x s v := fun v hv => (h.2.2.2.1 v).1 (reach_sub c1 ((h.2.2.2.1 s).2 .refl) hv)
  have r2 : ∀ v, Reach n f x s v → Reach n f y s v := fun v hv => (k.2.2.2.1 v).1 (reach_sub c2 ((k.2.2.2.1 s).2 .refl) hv)
  obtain ⟨sa, a1, a2⟩ := h.2.2.2.2.2
  obtain ⟨sb, b1, b2⟩ := k.2.2.2.2.2
  rw [a1, b1]
  exact cutS_congr _ fun v hv => by rw [a2 v hv, b2 v hv]; exact ⟨r2 _, r1 _⟩
theorem Same_L0 {k : Nat} {a : List Int} (hl : a.length < 9223372036854775808) : ∀ (m i : Nat), i ≤ a.length → a.length - i < m → sr09_SameInts_L0 k a a m (i : Int) = some (.inr ()) := by
  intro m
  induction m with
  | zero => intro i h1 h2; omega
  | succ m ih =>
    intro i h1 h2
    rw [sr09_SameInts_L0]
    by_cases c : (i : Int) < (a.length : Int)
    · rw [if_pos c, if_pos ⟨by omega, c⟩, if_pos ⟨by omega, c⟩, if_neg (by simp), wr_succ i (by omega)]
      exact ih (i + 1) (by omega) (by omega)
    · rw [if_neg c]
theorem Same_spec {k : Nat} {a : List Int} (hl : a.length < 9223372036854775808) (hk : a.length < k) : sr09_SameInts k a a = some true := by
  unfold sr09_SameInts
  have := Same_L0 (k := k) hl k 0 (by omega) (by omega)
  rw [show ((0 : Nat) : Int) = 0 from rfl] at this
  rw [if_neg (by simp), this, Option.bind_some, Sum.elim_inr]
theorem mget_set (v k : Int) : ∀ mp : List (Int × Bool), (mget v (mset k true mp)).getD false = if v = k then true else (mget v mp).getD false
  | [] => by
    unfold mset mget
    by_cases c : v = k
    · rw [if_pos c, if_pos c]; rfl
    · rw [if_neg c, if_neg c]; rfl
  | (k', b) :: l => by
    have ih := mget_set v k l
    unfold mset
    by_cases e : k = k'
    · rw [if_pos e]
      unfold mget
      by_cases c : v = k
      · rw [if_pos c, if_pos c]; rfl
      · rw [if_neg c, if_neg c, if_neg (fun q => c (q.trans e.symm))]
    · rw [if_neg e]
      unfold mget
      by_cases c : v = k'
      · rw [if_pos c, if_pos c, if_neg (fun q => e (q.symm.trans c))]
      · rw [if_neg c, if_neg c]; exact ih
theorem law_L0 {k : Nat} {cut : List Int} (hl : cut.length ≤ 1000) : ∀ (m i : Nat) (mp : List (Int × Bool)), i ≤ cut.length → cut.length - i < m → (∀ v, v ∈ cut.take i → (mget v mp).getD false = true) → ∃ r, sl_FlowMaxIsGreatest_L0 k cut m (i : Int) mp = some r ∧ ∀ v, v ∈ cut → (mget v r).getD false = true := by
  intro m
  induction m with
  | zero => intro i mp h1 h2; omega
  | succ m ih =>
    intro i mp h1 h2 h3
    rw [sl_FlowMaxIsGreatest_L0]
    by_cases c : (i : Int) < (cut.length : Int)
    · have hi : i < cut.length := by omega
      rw [if_pos c, if_pos ⟨by omega, c⟩, gx_nat cut i, wr_succ i (by omega)]
      refine ih (i + 1) _ (by omega) (by omega) fun v hv => ?_
      rw [mget_set]
      by_cases q : v = cut.getD i default
      · rw [if_pos q]
      · rw [if_neg q]
        rw [List.take_add_one, List.getElem?_eq_getElem hi] at hv
        rcases List.mem_append.1 hv with hv | hv
        · exact h3 v hv
        · exact absurd (by rw [getD_of hi]; simpa using hv) q
    · rw [if_neg c]
      exact ⟨mp, rfl, fun v hv => h3 v (by rw [List.take_of_length_le (by omega)]; exact hv)⟩
theorem law_L1 {k : Nat} {r : List Int × List Int × Int} {mp : List (Int × Bool)} (hl : r.2.1.length ≤ 1000) (h : ∀ v, v ∈ r.2.1 → (mget v mp).getD false = true) : ∀ (m i : Nat), i ≤ r.2.1.length → r.2.1.length - i < m → sl_FlowMaxIsGreatest_L1 k r mp m (i : Int) = some (.inr ()) := by
  intro m
  induction m with
  | zero => intro i h1 h2; omega
  | succ m ih =>
    intro i h1 h2
    rw [sl_FlowMaxIsGreatest_L1]
    by_cases c : (i : Int) < (r.2.1.length : Int)
    · have hi : i < r.2.1.length := by omega
      rw [if_pos c, if_pos ⟨by omega, c⟩, gx_nat r.2.1 i, if_pos (h _ (getD_mem hi)), wr_succ i (by omega)]
      exact ih (i + 1) (by omega) (by omega)
    · rw [if_neg c]
theorem law_Max (n : Net) (f : Failure) (a b : Int) (x cut : List Int) (hl : f.links.length < 9223372036854775808) (hh : Held n) : ∃ k, sl_FlowMaxIsGreatest k n f a b x cut = some true := by
  refine ⟨9223372036854775808, ?_⟩
  generalize hk : 9223372036854775808 = k
  have hk : 9223372036854775808 ≤ k := by omega
  unfold sl_FlowMaxIsGreatest
  obtain ⟨r, h1, h2⟩ := right_spec hk n f 0 0 hl hh
  rw [h1, Option.bind_some]
  by_cases hr : r = true
  · rw [if_pos hr]
    obtain ⟨hn, hfl, _, _⟩ := h2 hr
    have hnl := hn.links
    have hnn := hn.nodes
    have hfk : f.links.length < k := by omega
    by_cases l1 : 40 < (x.length : Int)
    · rw [if_pos l1]; rfl
    by_cases l2 : 40 < (cut.length : Int)
    · rw [if_neg l1, Option.bind_some, if_pos (decide_eq_true l2)]
    rw [if_neg l1, Option.bind_some, if_neg (by simpa using l2)]
    obtain ⟨u, u1, u2⟩ := Max_spec (k := k) a b hn hl hfk (by omega)
    obtain ⟨w, w1, w2⟩ := rMax_spec (k := k) a b hn hl hfk (by omega)
    rw [u1, Option.bind_some, w1, Option.bind_some]
    rcases u2 with ⟨g1, rfl⟩ | ⟨g1, g2, g3⟩
    · rcases w2 with ⟨_, rfl⟩ | ⟨z1, _⟩
      · rw [if_neg (by simp), Same_spec (by simp) (by simp; omega)]
        rfl
      · exact absurd z1 g1
    · rcases w2 with ⟨z1, _⟩ | ⟨_, z2, z3⟩
      · exact absurd g1 z1
      · have ec : w.2.1 = u.2.1 := (g3.uniq hn g1 z3).symm
        have hcl := g3.2.2.1
        rw [if_neg (by rw [g2, z2]; simp), ec, Same_spec (by omega) (by omega), Option.bind_some, Option.bind_some, if_neg (by simp), if_neg (by rw [g2]; simp)]
        have F := g3.1
        have hval := g3.val hn g1
        rw [Check_spec hn g1.1 g1.2.1 hl hfk (by omega), Option.bind_some]
        obtain ⟨q, q1, q2⟩ := Greatest_spec (k := k) (f := f) (a := a) (b := b) (x := u.1) (cut := u.2.1) hn g1.1 g1.2.1 hl hfk (by omega) (by omega) (by omega)
        have hq : q = true := q2.2 ⟨g3.2.1, F, (g3.2.2.2.1 a).2 .refl, g3.2.2.2.2.1, by unfold flowVal; rw [if_pos F]; exact hval⟩
        rw [if_pos (decide_eq_true F), q1, hq, Option.bind_some, Option.bind_some, if_neg (by simp), Check_spec hn g1.1 g1.2.1 hl hfk (by omega), Option.bind_some]
        have e4 : ((if (flowVal n f a b x, decide (IsFlow n f a b x)).2 = true then some (decide ((flowVal n f a b u.1, decide (IsFlow n f a b u.1)).1 < (flowVal n f a b x, decide (IsFlow n f a b x)).1)) else some false) : Option Bool) = some false := by
          by_cases G : IsFlow n f a b x
          · rw [if_pos (decide_eq_true G)]
            have := g3.le hn g1 G
            rw [decide_eq_false]
            show ¬ flowVal n f a b u.1 < flowVal n f a b x
            unfold flowVal
            rw [if_pos F, if_pos G]; omega
          · rw [if_neg (by simpa using G)]
        rw [e4, Option.bind_some, if_neg (by simp)]
        obtain ⟨o, o1, o2⟩ := Greatest_spec (k := k) (f := f) (a := a) (b := b) (x := u.1) (cut := cut) hn g1.1 g1.2.1 hl hfk (by omega) (by omega) (by omega)
        rw [o1, Option.bind_some]
        by_cases ho : o = true
        · rw [if_pos ho]
          obtain ⟨_, _, p1, p2, p3⟩ := o2.1 ho
          unfold flowVal at p3
          rw [if_pos F] at p3
          have hc := tight hn g1.1 g1.2.1 p1 p2 F p3
          obtain ⟨mp, m1, m2⟩ := law_L0 (k := k) (cut := cut) (by omega) k 0 [] (by omega) (by omega) (fun v hv => by simp at hv)
          have m3 := law_L1 (k := k) (r := u) (mp := mp) (by omega) (fun v hv => m2 v (reach_sub hc p1 ((g3.2.2.2.1 v).1 hv))) k 0 (by omega) (by omega)
          rw [show ((0 : Nat) : Int) = 0 from rfl] at m1 m3
          rw [m1, Option.bind_some, m3, Option.bind_some, Sum.elim_inr]
        · rw [if_neg ho]
  · rw [if_neg hr]; rfl
end Go.Proofs.Ytfalnphlgfoflaa
