/- The document's functions of layer 22: what they give. -/
import Derived.Test.YtfalnphlgfoflaaSC
import Derived.Test.YtfalnphlgfoflaaQ3
namespace Go.Proofs.Ytfalnphlgfoflaa
open Go Go.RowKit
set_option linter.unusedSimpArgs false
set_option linter.unusedVariables false
theorem rUp_L0 (k : Nat) (f : Failure) (v : Int) (hl : f.links.length < 9223372036854775808) : ∀ (m i : Nat), i ≤ f.links.length → f.links.length - i < m → v ∉ f.links.take i → (v ∈ f.links ∧ sr09_Up_L0 k f v m (i : Int) = some (.inl false)) ∨ (v ∉ f.links ∧ sr09_Up_L0 k f v m (i : Int) = some (.inr ())) := by
  intro m
  induction m with
  | zero => intro i h1 h2; omega
  | succ m ih =>
    intro i h1 h2 h3
    rw [sr09_Up_L0]
    by_cases c : (i : Int) < (f.links.length : Int)
    · have hi : i < f.links.length := by omega
      rw [if_pos c, if_pos ⟨by omega, c⟩, gx_nat]
      by_cases c2 : f.links.getD i default = v
      · rw [if_pos c2]
        exact .inl ⟨by rw [← c2]; exact getD_mem hi, rfl⟩
      · rw [if_neg c2, wr_succ i (by omega)]
        exact ih (i + 1) (by omega) (by omega) (take_ne hi h3 fun e => c2 e.symm)
    · rw [if_neg c]
      refine .inr ⟨?_, rfl⟩
      rwa [List.take_of_length_le (by omega)] at h3
theorem rUp_spec {k : Nat} {n : Net} {f : Failure} (hl : f.links.length < 9223372036854775808) (hk : f.links.length < k) {i : Nat} (hi : i < n.links.length) : sr09_Up k n f (i : Int) = some (decide (UpP n f (i : Int))) := by
  unfold sr09_Up
  have e : gx n.links (i : Int) = lnk n (i : Int) := rfl
  rcases rUp_L0 k f (i : Int) hl k 0 (by omega) (by omega) (by simp) with ⟨h1, h⟩ | ⟨h1, h⟩
  · rw [show ((0 : Nat) : Int) = 0 from rfl] at h
    rw [h, Option.bind_some, Sum.elim_inl]
    simp only [Option.some.injEq]; exact (decide_eq_false fun hh => hh.1 h1).symm
  · rw [show ((0 : Nat) : Int) = 0 from rfl] at h
    rw [h, Option.bind_some, Sum.elim_inr, if_pos ⟨by omega, by omega⟩, e]
    unfold UpP
    by_cases h2 : (lnk n (i : Int)).frm ≠ f.node
    · rw [if_pos h2]
      by_cases h3 : (lnk n (i : Int)).to ≠ f.node <;> simp [h1, h2, h3]
    · rw [if_neg h2]; simp only [Option.some.injEq]; exact (decide_eq_false fun hh => h2 hh.2.1).symm
theorem rhas_L0 (k : Nat) (l : List Int) (v : Int) (hl : l.length < 9223372036854775808) : ∀ (m i : Nat), i ≤ l.length → l.length - i < m → v ∉ l.take i → (v ∈ l ∧ sr22_has_L0 k l v m (i : Int) = some (.inl true)) ∨ (v ∉ l ∧ sr22_has_L0 k l v m (i : Int) = some (.inr ())) := by
  intro m
  induction m with
  | zero => intro i h1 h2; omega
  | succ m ih =>
    intro i h1 h2 h3
    rw [sr22_has_L0]
    by_cases c : (i : Int) < (l.length : Int)
    · have hi : i < l.length := by omega
      rw [if_pos c, if_pos ⟨by omega, c⟩, gx_nat]
      by_cases c2 : l.getD i default = v
      · rw [if_pos c2]
        exact .inl ⟨by rw [← c2]; exact getD_mem hi, rfl⟩
      · rw [if_neg c2, wr_succ i (by omega)]
        exact ih (i + 1) (by omega) (by omega) (take_ne hi h3 fun e => c2 e.symm)
    · rw [if_neg c]
      refine .inr ⟨?_, rfl⟩
      rwa [List.take_of_length_le (by omega)] at h3
theorem rhas_spec {k : Nat} {l : List Int} (v : Int) (hl : l.length < 9223372036854775808) (hk : l.length < k) : sr22_has k l v = some (decide (v ∈ l)) := by
  unfold sr22_has
  rcases rhas_L0 k l v hl k 0 (by omega) (by omega) (by simp) with ⟨h1, h⟩ | ⟨h1, h⟩
  · rw [show ((0 : Nat) : Int) = 0 from rfl] at h
    rw [h]; simp [h1]
  · rw [show ((0 : Nat) : Int) = 0 from rfl] at h
    rw [h]; simp [h1]
theorem risNode_spec {k : Nat} {n : Net} (v : Int) : sr22_isNode k n v = some (decide (isNodeP n v)) := by
  unfold sr22_isNode isNodeP
  by_cases h : 0 ≤ v
  · rw [if_pos h]; simp [h]
  · rw [if_neg h]; simp [h]
theorem rIsCut_L0 {k : Nat} {n : Net} {cut : List Int} (hc : cut.length < 9223372036854775808) : ∀ (m i : Nat), i ≤ cut.length → cut.length - i < m → (∀ j, j < i → CutK n cut j) →
    (CutOk n cut ∧ sr22_IsCut_L0 k n cut m (i : Int) = some (.inr ())) ∨ (¬ CutOk n cut ∧ sr22_IsCut_L0 k n cut m (i : Int) = some (.inl false)) := by
  intro m
  induction m with
  | zero => intro i h1 h2; omega
  | succ m ih =>
    intro i h1 h2 h3
    rw [sr22_IsCut_L0]
    by_cases c : (i : Int) < (cut.length : Int)
    · have hi : i < cut.length := by omega
      have next : CutK n cut i → _ := fun h => ih (i + 1) (by omega) (by omega) fun j hj => by rcases Nat.lt_succ_iff_lt_or_eq.1 hj with q | q; exact h3 j q; rw [q]; exact h
      rw [if_pos c, if_pos ⟨by omega, c⟩, risNode_spec, Option.bind_some, wr_succ i (by omega), gx_nat cut i]
      by_cases q1 : isNodeP n (cut.getD i default)
      · rw [if_pos (decide_eq_true q1)]
        by_cases q2 : (0 : Int) < (i : Int)
        · have e1 : IntKind.i64.wrap ((i : Int) - 1) = ((i - 1 : Nat) : Int) := by rw [wr64 (by omega)]; omega
          rw [if_pos q2, e1, if_pos ⟨by omega, by omega⟩, gx_nat cut (i - 1)]
          by_cases q3 : cut.getD i default ≤ cut.getD (i - 1) default
          · rw [if_pos q3]
            exact .inr ⟨fun h => by have := (h i hi).2 (by omega); omega, rfl⟩
          · rw [if_neg q3]
            exact next ⟨q1, fun _ => by omega⟩
        · rw [if_neg q2]
          exact next ⟨q1, fun h => by omega⟩
      · rw [if_neg (by simpa using q1)]
        exact .inr ⟨fun h => q1 (h i hi).1, rfl⟩
    · rw [if_neg c]
      exact .inl ⟨fun j hj => h3 j (by omega), rfl⟩
noncomputable instance (n : Net) (cut : List Int) : Decidable (CutOk n cut) := Classical.propDecidable _
theorem rIsCut_spec {k : Nat} {n : Net} {cut : List Int} (hc : cut.length < 9223372036854775808) (hk : cut.length < k) : sr22_IsCut k n cut = some (decide (CutOk n cut)) := by
  unfold sr22_IsCut
  rcases rIsCut_L0 (k := k) (n := n) hc k 0 (by omega) (by omega) (fun j hj => by omega) with ⟨h1, h⟩ | ⟨h1, h⟩
  · rw [show ((0 : Nat) : Int) = 0 from rfl] at h
    rw [h, decide_eq_true h1]; rfl
  · rw [show ((0 : Nat) : Int) = 0 from rfl] at h
    rw [h, decide_eq_false h1]; rfl
theorem rCapacity_L0 {k : Nat} {n : Net} {f : Failure} {cut : List Int} (hn : RightNet n) (hl : f.links.length < 9223372036854775808) (hk : f.links.length < k) (hc : cut.length < 9223372036854775808) (hkc : cut.length < k) : ∀ (m i : Nat), i ≤ n.links.length → n.links.length - i < m → sr22_Capacity_L0 k n f cut m (capS n f cut i) (i : Int) = some (capS n f cut n.links.length) := by
  have hnl := hn.links
  intro m
  induction m with
  | zero => intro i h1 h2; omega
  | succ m ih =>
    intro i h1 h2
    rw [sr22_Capacity_L0]
    by_cases c : (i : Int) < (n.links.length : Int)
    · have hi : i < n.links.length := by omega
      have hcap := hn.cap i hi
      have hb := capS_bound (f := f) (cut := cut) hn i h1
      rw [if_pos c, rUp_spec hl hk hi, Option.bind_some, if_pos ⟨by omega, c⟩, gx_nat n.links i, rhas_spec _ hc hkc, Option.bind_some, rhas_spec _ hc hkc, Option.bind_some, wr_succ i (by omega), wr64 (by omega)]
      have stay : ¬ (UpP n f (i : Int) ∧ (n.links.getD i default).frm ∈ cut ∧ (n.links.getD i default).to ∉ cut) → capS n f cut i = capS n f cut (i + 1) := fun h => by
        rw [capS, capTerm, if_neg h]; omega
      have go : (UpP n f (i : Int) ∧ (n.links.getD i default).frm ∈ cut ∧ (n.links.getD i default).to ∉ cut) → capS n f cut i + (n.links.getD i default).cap = capS n f cut (i + 1) := fun h => by
        rw [capS, capTerm, if_pos h]
      have ih' := ih (i + 1) (by omega) (by omega)
      by_cases q1 : UpP n f (i : Int)
      · rw [if_pos (decide_eq_true q1)]
        by_cases q2 : (n.links.getD i default).frm ∈ cut
        · rw [if_pos (decide_eq_true q2)]
          by_cases q3 : (n.links.getD i default).to ∈ cut
          · rw [if_pos (decide_eq_true q3), stay fun h => h.2.2 q3]; exact ih'
          · rw [if_neg (by simpa using q3), go ⟨q1, q2, q3⟩]; exact ih'
        · rw [if_neg (by simpa using q2), stay fun h => q2 h.2.1]; exact ih'
      · rw [if_neg (by simpa using q1), stay fun h => q1 h.1]; exact ih'
    · rw [if_neg c]
      have : i = n.links.length := by omega
      rw [this]
theorem rCapacity_spec {k : Nat} {n : Net} {f : Failure} {cut : List Int} (hn : RightNet n) (hl : f.links.length < 9223372036854775808) (hk : f.links.length < k) (hc : cut.length < 9223372036854775808) (hkc : cut.length < k) (hk2 : 100 < k) : sr22_Capacity k n f cut = some (capS n f cut n.links.length) := by
  have hnl := hn.links
  unfold sr22_Capacity
  have := rCapacity_L0 hn hl hk hc hkc k 0 (by omega) (by omega)
  rw [show capS n f cut 0 = 0 from rfl, show ((0 : Nat) : Int) = 0 from rfl] at this
  rw [this]; rfl
theorem rCost_L0 {k : Nat} {p x : List Int} (hpl : p.length ≤ 24) (hxl : x.length = p.length) (hp : ∀ y, y ∈ p → 0 ≤ y ∧ y ≤ 1048576) (hx : ∀ j, j < p.length → 0 ≤ x.getD j default ∧ x.getD j default ≤ 1048576) : ∀ (m i : Nat), i ≤ p.length → p.length - i < m → sr22_Cost_L0 k p x m (costS p x i) (i : Int) = some (costS p x p.length) := by
  intro m
  induction m with
  | zero => intro i h1 h2; omega
  | succ m ih =>
    intro i h1 h2
    rw [sr22_Cost_L0]
    by_cases c : (i : Int) < (p.length : Int)
    · have hi : i < p.length := by omega
      obtain ⟨b1, b2⟩ := costS_bound hp hx i h1
      have r1 := hp (p.getD i default) (getD_mem (by omega))
      have r2 := hx i (by omega)
      have h3 : 0 ≤ p.getD i default * x.getD i default := Int.mul_nonneg r1.1 r2.1
      have h4 : p.getD i default * x.getD i default ≤ 1048576 * 1048576 := Int.mul_le_mul r1.2 r2.2 r2.1 (by omega)
      rw [if_pos c, if_pos ⟨by omega, c⟩, if_pos ⟨by omega, by omega⟩, wr_succ i (by omega), gx_nat p i, gx_nat x i, wr64 (n := p.getD i default * x.getD i default) (by omega), wr64 (by omega)]
      exact ih (i + 1) (by omega) (by omega)
    · rw [if_neg c]
      have : i = p.length := by omega
      rw [this]
theorem rCost_spec {k : Nat} {p x : List Int} (hpl : p.length ≤ 24) (hxl : x.length = p.length) (hp : ∀ y, y ∈ p → 0 ≤ y ∧ y ≤ 1048576) (hx : ∀ j, j < p.length → 0 ≤ x.getD j default ∧ x.getD j default ≤ 1048576) (hk : 100 < k) : sr22_Cost k p x = some (costS p x p.length) := by
  unfold sr22_Cost
  have := rCost_L0 (k := k) hpl hxl hp hx k 0 (by omega) (by omega)
  rw [show costS p x 0 = 0 from rfl, show ((0 : Nat) : Int) = 0 from rfl] at this
  rw [this]; rfl
theorem rPrices_L0 {k : Nat} {l : List Int} (hc : l.length < 9223372036854775808) : ∀ (m i : Nat), i ≤ l.length → l.length - i < m → (∀ j, j < i → 0 ≤ l.getD j default ∧ l.getD j default ≤ 1048576) →
    ((∀ j, j < l.length → 0 ≤ l.getD j default ∧ l.getD j default ≤ 1048576) ∧ sr22_Prices_L0 k l m (i : Int) = some (.inr ())) ∨ ((¬ ∀ j, j < l.length → 0 ≤ l.getD j default ∧ l.getD j default ≤ 1048576) ∧ sr22_Prices_L0 k l m (i : Int) = some (.inl false)) := by
  intro m
  induction m with
  | zero => intro i h1 h2; omega
  | succ m ih =>
    intro i h1 h2 h3
    rw [sr22_Prices_L0]
    by_cases c : (i : Int) < (l.length : Int)
    · have hi : i < l.length := by omega
      rw [if_pos c, if_pos ⟨by omega, c⟩, wr_succ i (by omega), gx_nat l i]
      by_cases q1 : l.getD i default < 0
      · rw [if_pos q1]
        exact .inr ⟨fun h => by have := h i hi; omega, rfl⟩
      · rw [if_neg q1]
        by_cases q2 : 1048576 < l.getD i default
        · rw [if_pos q2]
          exact .inr ⟨fun h => by have := h i hi; omega, rfl⟩
        · rw [if_neg q2]
          exact ih (i + 1) (by omega) (by omega) fun j hj => by rcases Nat.lt_succ_iff_lt_or_eq.1 hj with q | q; exact h3 j q; rw [q]; omega
    · rw [if_neg c]
      exact .inl ⟨fun j hj => h3 j (by omega), rfl⟩
theorem all_getD {l : List Int} {P : Int → Prop} : (∀ j, j < l.length → P (l.getD j default)) ↔ ∀ y, y ∈ l → P y := by
  constructor
  · intro h y hy
    obtain ⟨j, hj, rfl⟩ := List.getElem_of_mem hy
    rw [← getD_of hj]; exact h j hj
  · exact fun h j hj => h _ (getD_mem hj)
theorem rPrices_spec {k : Nat} {n : Net} {l : List Int} (hc : l.length < 9223372036854775808) (hk : l.length < k) : sr22_Prices k n l = some (decide (Bound l n.links.length 1048576)) := by
  unfold sr22_Prices
  rcases rPrices_L0 (k := k) hc k 0 (by omega) (by omega) (fun j hj => by omega) with ⟨h1, h⟩ | ⟨h1, h⟩
  · rw [show ((0 : Nat) : Int) = 0 from rfl] at h
    rw [h, Option.bind_some, Sum.elim_inr]
    simp only [Option.some.injEq, decide_eq_decide]
    exact ⟨fun q => ⟨q, (all_getD (P := fun y => 0 ≤ y ∧ y ≤ 1048576)).1 h1⟩, fun q => q.1⟩
  · rw [show ((0 : Nat) : Int) = 0 from rfl] at h
    rw [h, Option.bind_some, Sum.elim_inl]
    simp only [Option.some.injEq]
    exact (decide_eq_false fun q => h1 ((all_getD (P := fun y => 0 ≤ y ∧ y ≤ 1048576)).2 q.2)).symm
end Go.Proofs.Ytfalnphlgfoflaa
