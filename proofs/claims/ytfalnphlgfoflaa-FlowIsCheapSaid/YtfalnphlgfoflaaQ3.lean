/- What the plain functions of flow give: cheapest flows, costs, right networks. -/
import Derived.Test.YtfalnphlgfoflaaQ2
namespace Go.Proofs.Ytfalnphlgfoflaa
open Go Go.RowKit
set_option linter.unusedSimpArgs false
set_option linter.unusedVariables false
theorem Cheapest_L0 {k : Nat} {n : Net} {f : Failure} {prices x pot : List Int} (hn : RightNet n) (hx : x.length = n.links.length) (hP : Bound prices n.links.length 1048576) (hQ : Bound pot n.nodes.length 4294967296) (hl : f.links.length < 9223372036854775808) (hk : f.links.length < k) : ∀ (m i : Nat), i ≤ n.links.length → n.links.length - i < m → (∀ j, j < i → CheapK n f prices x pot j) →
    ((∀ j, j < n.links.length → CheapK n f prices x pot j) ∧ sflow_Cheapest_L0 k n f prices x pot m (i : Int) = some (.inr ())) ∨ ((¬ ∀ j, j < n.links.length → CheapK n f prices x pot j) ∧ sflow_Cheapest_L0 k n f prices x pot m (i : Int) = some (.inl false)) := by
  have hnl := hn.links
  have hnn := hn.nodes
  have hP1 := hP.1
  have hQ1 := hQ.1
  intro m
  induction m with
  | zero => intro i h1 h2; omega
  | succ m ih =>
    intro i h1 h2 h3
    rw [sflow_Cheapest_L0]
    by_cases c : (i : Int) < (n.links.length : Int)
    · have hi : i < n.links.length := by omega
      have hf := hn.frm i hi
      have ht := hn.to i hi
      have r1 := hP.2 (prices.getD i default) (getD_mem (by omega))
      have r2 := hQ.2 (pot.getD (n.links.getD i default).frm.toNat default) (getD_mem (by omega))
      have r3 := hQ.2 (pot.getD (n.links.getD i default).to.toNat default) (getD_mem (by omega))
      have next : CheapK n f prices x pot i → _ := fun h => ih (i + 1) (by omega) (by omega) fun j hj => by rcases Nat.lt_succ_iff_lt_or_eq.1 hj with q | q; exact h3 j q; rw [q]; exact h
      have e1 : gx pot (n.links.getD i default).frm = pot.getD (n.links.getD i default).frm.toNat default := rfl
      have e2 : gx pot (n.links.getD i default).to = pot.getD (n.links.getD i default).to.toNat default := rfl
      have e3 : redK n prices pot i = prices.getD i default + pot.getD (n.links.getD i default).frm.toNat default - pot.getD (n.links.getD i default).to.toNat default := rfl
      rw [if_pos c, if_pos ⟨by omega, c⟩, Up_spec hl hk hi, Option.bind_some, wr_succ i (by omega), gx_nat n.links i, gx_nat x i, gx_nat prices i, e1, e2, wr64 (n := prices.getD i default + pot.getD (n.links.getD i default).frm.toNat default) (by omega), wr64 (n := prices.getD i default + pot.getD (n.links.getD i default).frm.toNat default - pot.getD (n.links.getD i default).to.toNat default) (by omega), ← e3]
      by_cases q0 : UpP n f (i : Int)
      · rw [if_pos (decide_eq_true q0), if_pos ⟨by omega, by omega⟩, if_pos ⟨by omega, by omega⟩, if_pos ⟨by omega, by omega⟩]
        by_cases q1 : redK n prices pot i < 0
        · rw [if_pos q1, if_pos ⟨by omega, by omega⟩]
          by_cases q2 : x.getD i default < (n.links.getD i default).cap
          · rw [if_pos q2]
            exact .inr ⟨fun h => (h i hi q0).1 ⟨q1, q2⟩, rfl⟩
          · rw [if_neg q2, if_neg (by omega)]
            exact next fun _ => ⟨fun h => q2 h.2, fun h => by have := h.1; omega⟩
        · rw [if_neg q1]
          by_cases q3 : 0 < redK n prices pot i
          · rw [if_pos q3, if_pos ⟨by omega, by omega⟩]
            by_cases q4 : 0 < x.getD i default
            · rw [if_pos q4]
              exact .inr ⟨fun h => (h i hi q0).2 ⟨q3, q4⟩, rfl⟩
            · rw [if_neg q4]
              exact next fun _ => ⟨fun h => q1 h.1, fun h => q4 h.2⟩
          · rw [if_neg q3]
            exact next fun _ => ⟨fun h => q1 h.1, fun h => q3 h.1⟩
      · rw [if_neg (by simpa using q0)]
        exact next fun h => absurd h q0
    · rw [if_neg c]
      exact .inl ⟨fun j hj => h3 j (by omega), rfl⟩
theorem Cheapest_spec {k : Nat} {n : Net} {f : Failure} {a b : Int} {prices x pot : List Int} (hn : RightNet n) (ha : 0 ≤ a ∧ a < (n.nodes.length : Int)) (hb : 0 ≤ b ∧ b < (n.nodes.length : Int)) (hl : f.links.length < 9223372036854775808) (hk : 9223372036854775808 ≤ k) (hp : prices.length < 9223372036854775808) (hq : pot.length < 9223372036854775808) :
    ∃ r, sflow_Cheapest k n f prices a b x pot = some r ∧ (r = true ↔ IsCheapest n f prices a b x pot) := by
  have hnl := hn.links
  unfold sflow_Cheapest
  rw [Check_spec hn ha hb hl (by omega) (by omega), Option.bind_some, bounded_spec _ _ hp (by omega), bounded_spec _ _ hq (by omega)]
  by_cases q1 : IsFlow n f a b x
  · by_cases q2 : Bound prices n.links.length 1048576
    · by_cases q3 : Bound pot n.nodes.length 4294967296
      · rcases Cheapest_L0 (f := f) hn q1.2.1 q2 q3 hl (show f.links.length < k by omega) k 0 (by omega) (by omega) (fun j hj => by omega) with ⟨h1, h⟩ | ⟨h1, h⟩
        · rw [show ((0 : Nat) : Int) = 0 from rfl] at h
          exact ⟨true, by simp [q1, q2, q3, h], by simp [IsCheapest, q1, q2, q3]; exact h1⟩
        · rw [show ((0 : Nat) : Int) = 0 from rfl] at h
          exact ⟨false, by simp [q1, q2, q3, h], by simp only [Bool.false_eq_true, false_iff]; exact fun hh => h1 hh.2.2.2⟩
      · exact ⟨false, by simp [q1, q2, q3], by simp [IsCheapest, q3]⟩
    · exact ⟨false, by simp [q1, q2], by simp [IsCheapest, q2]⟩
  · exact ⟨false, by simp [q1], by simp [IsCheapest, q1]⟩
theorem costS_bound {p x : List Int} (hp : ∀ y, y ∈ p → 0 ≤ y ∧ y ≤ 1048576) (hx : ∀ j, j < p.length → 0 ≤ x.getD j default ∧ x.getD j default ≤ 1048576) : ∀ i, i ≤ p.length → 0 ≤ costS p x i ∧ costS p x i ≤ (i : Int) * 1099511627776
  | 0, _ => by simp [costS]
  | i + 1, hi => by
    obtain ⟨a, b⟩ := costS_bound hp hx i (by omega)
    have h1 := hp (p.getD i default) (getD_mem (by omega))
    have h2 := hx i (by omega)
    have h3 : 0 ≤ p.getD i default * x.getD i default := Int.mul_nonneg h1.1 h2.1
    have h4 : p.getD i default * x.getD i default ≤ 1048576 * 1048576 := Int.mul_le_mul h1.2 h2.2 h2.1 (by omega)
    unfold costS
    constructor
    · omega
    · push_cast; omega
theorem Cost_L0 {k : Nat} {p x : List Int} (hpl : p.length ≤ 24) (hxl : x.length = p.length) (hp : ∀ y, y ∈ p → 0 ≤ y ∧ y ≤ 1048576) (hx : ∀ j, j < p.length → 0 ≤ x.getD j default ∧ x.getD j default ≤ 1048576) : ∀ (m i : Nat), i ≤ p.length → p.length - i < m → sflow_Cost_L0 k p x m (costS p x i) (i : Int) = some (costS p x p.length) := by
  intro m
  induction m with
  | zero => intro i h1 h2; omega
  | succ m ih =>
    intro i h1 h2
    rw [sflow_Cost_L0]
    by_cases c : (i : Int) < (p.length : Int)
    · have hi : i < p.length := by omega
      obtain ⟨b1, b2⟩ := costS_bound hp hx i h1
      have r1 := hp (p.getD i default) (getD_mem (by omega))
      have r2 := hx i (by omega)
      have h3 : 0 ≤ p.getD i default * x.getD i default := Int.mul_nonneg r1.1 r2.1
      have h4 : p.getD i default * x.getD i default ≤ 1048576 * 1048576 := Int.mul_le_mul r1.2 r2.2 r2.1 (by omega)
      rw [if_pos c, if_pos ⟨by omega, c⟩, if_pos ⟨by omega, by omega⟩, wr_succ i (by omega), gx_nat p i, gx_nat x i, wr64 (n := p.getD i default * x.getD i default) (by omega), wr64 (by omega)]
      exact ih (i + 1) (by omega) (by omega)
    · rw [if_neg c]
      have : i = p.length := by omega
      rw [this]
theorem Cost_spec {k : Nat} {p x : List Int} (hpl : p.length ≤ 24) (hxl : x.length = p.length) (hp : ∀ y, y ∈ p → 0 ≤ y ∧ y ≤ 1048576) (hx : ∀ j, j < p.length → 0 ≤ x.getD j default ∧ x.getD j default ≤ 1048576) (hk : 100 < k) : sflow_Cost k p x = some (costS p x p.length) := by
  unfold sflow_Cost
  have := Cost_L0 (k := k) hpl hxl hp hx k 0 (by omega) (by omega)
  rw [show costS p x 0 = 0 from rfl, show ((0 : Nat) : Int) = 0 from rfl] at this
  rw [this]; rfl
end Go.Proofs.Ytfalnphlgfoflaa
