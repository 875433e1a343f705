/- FlowChecksAsSpecified on plain values. -/
import Derived.Test.YtfalnphlgfoflaaQb
import Derived.Test.YtfalnphlgfoflaaQ5
import Derived.Test.YtfalnphlgfoflaaSL2
namespace Go.Proofs.Ytfalnphlgfoflaa
open Go Go.RowKit
set_option linter.unusedSimpArgs false
set_option linter.unusedVariables false
theorem bind_of {α β : Type} {o : Option α} {g : α → Option β} {s : α} {r : Option β} (h : o = some s) (h2 : g s = r) : o.bind g = r := by rw [h]; exact h2
theorem chk_L0 {k : Nat} {l : List Strand} (hl : l.length ≤ 40) : ∀ (m i : Nat), i ≤ l.length → l.length - i < m → (∀ j, j < i → (l.getD j default).links.length ≤ 40) → ((∀ j, j < l.length → (l.getD j default).links.length ≤ 40) ∧ sl_FlowChecksAsSpecified_L0 k l m (i : Int) = some (.inr ())) ∨ sl_FlowChecksAsSpecified_L0 k l m (i : Int) = some (.inl true) := by
  intro m
  induction m with
  | zero => intro i h1 h2; omega
  | succ m ih =>
    intro i h1 h2 h3
    rw [sl_FlowChecksAsSpecified_L0]
    by_cases c : (i : Int) < (l.length : Int)
    · rw [if_pos c, if_pos ⟨by omega, c⟩, gx_nat l i]
      by_cases q : (40 : Int) < ((l.getD i default).links.length : Int)
      · rw [if_pos q]; exact .inr rfl
      · rw [if_neg q, wr_succ i (by omega)]
        exact ih (i + 1) (by omega) (by omega) fun j hj => by rcases Nat.lt_succ_iff_lt_or_eq.1 hj with q | q; exact h3 j q; rw [q]; omega
    · rw [if_neg c]
      exact .inl ⟨fun j hj => h3 j (by omega), rfl⟩
theorem law_Checks (n : Net) (f : Failure) (a b : Int) (x cut prices pot : List Int) (l : List Strand) (hl : f.links.length < 9223372036854775808) (hh : Held n) : ∃ k, sl_FlowChecksAsSpecified k n f a b x cut prices pot l = some true := by
  refine ⟨9223372036854775808, ?_⟩
  generalize hk : 9223372036854775808 = k
  have hk : 9223372036854775808 ≤ k := by omega
  unfold sl_FlowChecksAsSpecified
  obtain ⟨r, h1, h2⟩ := right_spec hk n f a b hl hh
  rw [h1, Option.bind_some]
  by_cases hr : r = true
  · rw [if_pos hr]
    obtain ⟨hn, hfl, ha, hb⟩ := h2 hr
    by_cases l1 : 40 < (x.length : Int)
    · rw [if_pos l1]; rfl
    by_cases l2 : 40 < (cut.length : Int)
    · rw [if_neg l1, if_pos l2]; rfl
    by_cases l3 : 40 < (prices.length : Int)
    · rw [if_neg l1, if_neg l2, if_pos l3]; rfl
    by_cases l4 : 40 < (pot.length : Int)
    · rw [if_neg l1, if_neg l2, if_neg l3, if_pos l4]; rfl
    rw [if_neg l1, if_neg l2, if_neg l3, if_neg l4, Option.bind_some]
    by_cases l5 : 40 < (l.length : Int)
    · rw [if_pos (decide_eq_true l5)]
    have hnl := hn.links
    have hfk : f.links.length < k := by omega
    rw [if_neg (by simpa using l5), Check_spec hn ha hb hl hfk (by omega), rCheck_spec hn ha hb hl hfk (by omega), Option.bind_some, Option.bind_some]
    obtain ⟨g, g1, g2⟩ := Greatest_spec (f := f) (a := a) (b := b) (x := x) (cut := cut) hn ha hb hl hfk (by omega) (by omega) (by omega)
    obtain ⟨g', g1', g2'⟩ := rGreatest_spec (f := f) (a := a) (b := b) (x := x) (cut := cut) hn ha hb hl hfk (by omega) (by omega) (by omega)
    obtain ⟨c, c1, c2⟩ := Cheapest_spec (f := f) (a := a) (b := b) (prices := prices) (x := x) (pot := pot) hn ha hb hl hk (by omega) (by omega)
    obtain ⟨c', c1', c2'⟩ := rCheapest_spec (f := f) (a := a) (b := b) (prices := prices) (x := x) (pot := pot) hn ha hb hl hk (by omega) (by omega)
    have eg : g' = g := by rw [Bool.eq_iff_iff, g2, g2']
    have ec : c' = c := by rw [Bool.eq_iff_iff, c2, c2']
    subst eg; subst ec
    refine bind_of (s := (decide (IsFlow n f a b x), false)) ?_ ?_
    · rw [if_neg (by simp), g1, g1', c1, c1']
      by_cases F : IsFlow n f a b x
      · simp only [decide_eq_true F, if_true, Option.bind_some]
        cases g' <;> cases c' <;> rfl
      · simp only [decide_eq_false F, Bool.false_eq_true, if_false, Option.bind_some]
        cases g' <;> cases c' <;> rfl
    · simp only [Bool.false_eq_true, if_false]
      refine bind_of (s := false) ?_ ?_
      · rw [rIsCut_spec (by omega) (by omega), Option.bind_some, Capacity_spec hn hl hfk (by omega) (by omega) (by omega), rCapacity_spec hn hl hfk (by omega) (by omega) (by omega)]
        by_cases q : CutOk n cut
        · rw [if_pos (decide_eq_true q)]; simp
        · rw [if_neg (by simpa using q)]
      · simp only [Bool.false_eq_true, if_false]
        by_cases F : IsFlow n f a b x
        · rw [if_pos (decide_eq_true F)]
          have bx : ∀ j, j < x.length → 0 ≤ x.getD j default ∧ x.getD j default ≤ 1048576 := fun j hj => by
            have hx := F.2.1
            obtain ⟨u1, u2, _⟩ := F.2.2.1 j (by omega)
            have := hn.cap j (by omega)
            omega
          have hx := F.2.1
          refine bind_of (s := false) ?_ ?_
          · rw [rPrices_spec (by omega) (by omega), Option.bind_some]
            by_cases q : Bound prices n.links.length 1048576
            · have q1 := q.1
              rw [if_pos (decide_eq_true q), Cost_spec (by omega) (by omega) q.2 (fun j hj => bx j (by omega)) (by omega), rCost_spec (by omega) (by omega) q.2 (fun j hj => bx j (by omega)) (by omega)]
              simp
            · rw [if_neg (by simpa using q)]
          · simp only [Bool.false_eq_true, if_false]
            rcases chk_L0 (k := k) (l := l) (by omega) k 0 (by omega) (by omega) (fun j hj => by omega) with ⟨h40, h⟩ | h
            · rw [show ((0 : Nat) : Int) = 0 from rfl] at h
              rw [h, Option.bind_some, Sum.elim_inr]
              obtain ⟨s, s1, s2⟩ := fStrands_spec (k := k) (a := a) (b := b) (x := x) (l := l) hnl hx bx (by omega) h40 (by omega)
              obtain ⟨s', s1', s2'⟩ := rStrands_spec (k := k) (a := a) (b := b) (x := x) (l := l) hnl hx bx (by omega) h40 (by omega)
              have es : s' = s := by rw [Bool.eq_iff_iff, s2, s2']
              subst es
              rw [s1, s1', Option.bind_some, Option.bind_some]
              cases s' <;> rfl
            · rw [show ((0 : Nat) : Int) = 0 from rfl] at h
              rw [h, Option.bind_some, Sum.elim_inl]
        · rw [if_neg (by simpa using F)]
  · rw [if_neg hr]; rfl
end Go.Proofs.Ytfalnphlgfoflaa
