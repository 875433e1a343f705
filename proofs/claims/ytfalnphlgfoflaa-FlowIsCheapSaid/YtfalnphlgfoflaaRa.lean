/- The document's functions of layer 22: what they give. -/
import Derived.Test.YtfalnphlgfoflaaSC
import Derived.Test.YtfalnphlgfoflaaQ3
set_option linter.unusedSimpArgs false
set_option linter.unusedVariables false
set_option linter.unusedSectionVars false
namespace Go.Proofs.Ytfalnphlgfoflaa
open Go Go.RowKit
set_option linter.unusedSimpArgs false
set_option linter.unusedVariables false
theorem rUp_L0 (k : Nat) (f : Failure) (v : Int) (hl : f.links.length < 9223372036854775808) : ∀ (m i : Nat), i ≤ f.links.length → f.links.length - i < m → v ∉ f.links.take i → (v ∈ f.links ∧ sr09_Up_L0 k f v m (i : Int) = some (.inl false)) ∨ (v ∉ f.links ∧ sr09_Up_L0 k f v m (i : Int) = some (.inr ())) := by
  intro m
  induction m with
  | zero => intro i h1 h2; omega
  | succ m ih =>
    intro i h1 h2 h3
    rw [sr09_Up_L0]
    by_cases c : (i : Int) < (f.links.length : Int)
    · have hi : i < f.links.length := by omega
      rw [if_pos c, if_pos ⟨by omega, c⟩, gx_nat]
      by_cases c2 : f.links.getD i default = v
      · rw [if_pos c2]
        exact .inl ⟨by rw [← c2]; exact getD_mem hi, rfl⟩
      · rw [if_neg c2, wr_succ i (by omega)]
        exact ih (i + 1) (by omega) (by omega) (take_ne hi h3 fun e => c2 e.symm)
    · rw [if_neg c]
      refine .inr ⟨?_, rfl⟩
      rwa [List.take_of_length_le (by omega)] at h3
theorem rUp_spec {k : Nat} {n : Net} {f : Failure} (hl : f.links.length < 9223372036854775808) (hk : f.links.length < k) {i : Nat} (hi : i < n.links.length) : sr09_Up k n f (i : Int) = some (decide (UpP n f (i : Int))) := by
  unfold sr09_Up
  have e : gx n.links (i : Int) = lnk n (i : Int) := rfl
  rcases rUp_L0 k f (i : Int) hl k 0 (by omega) (by omega) (by simp) with ⟨h1, h⟩ | ⟨h1, h⟩
  · rw [show ((0 : Nat) : Int) = 0 from rfl] at h
    rw [h, Option.bind_some, Sum.elim_inl]
    simp only [Option.some.injEq]; exact (decide_eq_false fun hh => hh.1 h1).symm
  · rw [show ((0 : Nat) : Int) = 0 from rfl] at h
    rw [h, Option.bind_some, Sum.elim_inr, if_pos ⟨by omega, by omega⟩, e]
    unfold UpP
    by_cases h2 : (lnk n (i : Int)).frm ≠ f.node
    · rw [if_pos h2]
      by_cases h3 : (lnk n (i : Int)).to ≠ f.node <;> simp [h1, h2, h3]
    · rw [if_neg h2]; simp only [Option.some.injEq]; exact (decide_eq_false fun hh => h2 hh.2.1).symm
theorem risNode_spec {k : Nat} {n : Net} (v : Int) : sr22_isNode k n v = some (decide (isNodeP n v)) := by
  unfold sr22_isNode isNodeP
  by_cases h : 0 ≤ v
  · rw [if_pos h]; simp [h]
  · rw [if_neg h]; simp [h]
noncomputable instance (n : Net) (cut : List Int) : Decidable (CutOk n cut) := Classical.propDecidable _
theorem rPrices_L0 {k : Nat} {l : List Int} (hc : l.length < 9223372036854775808) : ∀ (m i : Nat), i ≤ l.length → l.length - i < m → (∀ j, j < i → 0 ≤ l.getD j default ∧ l.getD j default ≤ 1048576) →
    ((∀ j, j < l.length → 0 ≤ l.getD j default ∧ l.getD j default ≤ 1048576) ∧ sr22_Prices_L0 k l m (i : Int) = some (.inr ())) ∨ ((¬ ∀ j, j < l.length → 0 ≤ l.getD j default ∧ l.getD j default ≤ 1048576) ∧ sr22_Prices_L0 k l m (i : Int) = some (.inl false)) := by
  intro m
  induction m with
  | zero => intro i h1 h2; omega
  | succ m ih =>
    intro i h1 h2 h3
    rw [sr22_Prices_L0]
    by_cases c : (i : Int) < (l.length : Int)
    · have hi : i < l.length := by omega
      rw [if_pos c, if_pos ⟨by omega, c⟩, wr_succ i (by omega), gx_nat l i]
      by_cases q1 : l.getD i default < 0
      · rw [if_pos q1]
        exact .inr ⟨fun h => by have := h i hi; omega, rfl⟩
      · rw [if_neg q1]
        by_cases q2 : 1048576 < l.getD i default
        · rw [if_pos q2]
          exact .inr ⟨fun h => by have := h i hi; omega, rfl⟩
        · rw [if_neg q2]
          exact ih (i + 1) (by omega) (by omega) fun j hj => by rcases Nat.lt_succ_iff_lt_or_eq.1 hj with q | q; exact h3 j q; rw [q]; omega
    · rw [if_neg c]
      exact .inl ⟨fun j hj => h3 j (by omega), rfl⟩
theorem allI_getD {l : List Int} {P : Int → Prop} : (∀ j, j < l.length → P (l.getD j default)) ↔ ∀ y, y ∈ l → P y := by
  constructor
  · intro h y hy
    obtain ⟨j, hj, rfl⟩ := List.getElem_of_mem hy
    rw [← getD_of hj]; exact h j hj
  · exact fun h j hj => h _ (getD_mem hj)
theorem rPrices_spec {k : Nat} {n : Net} {l : List Int} (hc : l.length < 9223372036854775808) (hk : l.length < k) : sr22_Prices k n l = some (decide (Bound l n.links.length 1048576)) := by
  unfold sr22_Prices
  rcases rPrices_L0 (k := k) hc k 0 (by omega) (by omega) (fun j hj => by omega) with ⟨h1, h⟩ | ⟨h1, h⟩
  · rw [show ((0 : Nat) : Int) = 0 from rfl] at h
    rw [h, Option.bind_some, Sum.elim_inr]
    simp only [Option.some.injEq, decide_eq_decide]
    exact ⟨fun q => ⟨q, (allI_getD (P := fun y => 0 ≤ y ∧ y ≤ 1048576)).1 h1⟩, fun q => q.1⟩
  · rw [show ((0 : Nat) : Int) = 0 from rfl] at h
    rw [h, Option.bind_some, Sum.elim_inl]
    simp only [Option.some.injEq]
    exact (decide_eq_false fun q => h1 ((allI_getD (P := fun y => 0 ≤ y ∧ y ≤ 1048576)).2 q.2)).symm
end Go.Proofs.Ytfalnphlgfoflaa
namespace Go.Proofs.Ytfalnphlgfoflaa
open Go Go.RowKit
set_option linter.unusedSimpArgs false
set_option linter.unusedVariables false
theorem rCheck_L0 {k : Nat} {n : Net} {f : Failure} {x : List Int} (hn : RightNet n) (hx : x.length = n.links.length) (hl : f.links.length < 9223372036854775808) (hk : f.links.length < k) : ∀ (m i : Nat), i ≤ x.length → x.length - i < m → (∀ j, j < i → GoodK n f x j) →
    ((∀ j, j < x.length → GoodK n f x j) ∧ sr22_Check_L0 k n f x m (i : Int) (restL n x i) = some (.inr (restL n x x.length))) ∨ ((¬ ∀ j, j < x.length → GoodK n f x j) ∧ sr22_Check_L0 k n f x m (i : Int) (restL n x i) = some (.inl (0, false))) := by
  have hnl := hn.links
  have hnn := hn.nodes
  intro m
  induction m with
  | zero => intro i h1 h2; omega
  | succ m ih =>
    intro i h1 h2 h3
    rw [sr22_Check_L0]
    by_cases c : (i : Int) < (x.length : Int)
    · have hi : i < x.length := by omega
      have hi2 : i < n.links.length := by omega
      have hf := hn.frm i hi2
      have ht := hn.to i hi2
      rw [if_pos c, if_pos ⟨by omega, by omega⟩, rUp_spec hl hk hi2, Option.bind_some, if_pos ⟨by omega, c⟩, gx_nat x i, gx_nat n.links i]
      by_cases hg : GoodK n f x i
      · have e : ((if x.getD i default < 0 then some true else (if (n.links.getD i default).cap < x.getD i default then some true else (if decide (UpP n f (i : Int)) = true then some false else some (decide (0 < x.getD i default))))) : Option Bool) = some false := by
          obtain ⟨g1, g2, g3⟩ := id hg
          rw [if_neg (by omega), if_neg (by omega)]
          by_cases h0 : 0 < x.getD i default
          · rw [if_pos (decide_eq_true (g3 h0))]
          · rw [decide_eq_false h0]; split <;> rfl
        rw [e, Option.bind_some, if_neg (by simp), if_pos ⟨by omega, by omega⟩, if_pos (by rw [restL_len]; omega), if_pos ⟨by omega, c⟩, if_pos ⟨by omega, by omega⟩, if_pos (by rw [List.length_set, restL_len]; omega), wr_succ i (by omega), set2 hn hx hi2 h3 ⟨hg.1, hg.2.1⟩]
        exact ih (i + 1) (by omega) (by omega) fun j hj => by rcases Nat.lt_succ_iff_lt_or_eq.1 hj with q | q; exact h3 j q; rw [q]; exact hg
      · have e : ((if x.getD i default < 0 then some true else (if (n.links.getD i default).cap < x.getD i default then some true else (if decide (UpP n f (i : Int)) = true then some false else some (decide (0 < x.getD i default))))) : Option Bool) = some true := by
          by_cases q1 : x.getD i default < 0
          · rw [if_pos q1]
          · rw [if_neg q1]
            by_cases q2 : (n.links.getD i default).cap < x.getD i default
            · rw [if_pos q2]
            · rw [if_neg q2]
              have q3 : 0 < x.getD i default ∧ ¬ UpP n f (i : Int) := by
                refine Classical.byContradiction fun hh => hg ⟨by omega, by omega, fun h0 => ?_⟩
                exact Classical.byContradiction fun hu => hh ⟨h0, hu⟩
              rw [if_neg (by simpa using q3.2), decide_eq_true q3.1]
        rw [e, Option.bind_some, if_pos rfl]
        exact .inr ⟨fun hh => hg (hh i hi), rfl⟩
    · rw [if_neg c]
      have : i = x.length := by omega
      subst this
      exact .inl ⟨h3, rfl⟩
theorem rCheck_L1 {k : Nat} {n : Net} {a b : Int} {s : List Int} (hs : s.length = n.nodes.length) (hn : n.nodes.length < 9223372036854775808) : ∀ (m i : Nat), i ≤ n.nodes.length → n.nodes.length - i < m → (∀ j : Nat, j < i → (j : Int) ≠ a → (j : Int) ≠ b → s.getD j default = 0) →
    ((∀ j : Nat, j < n.nodes.length → (j : Int) ≠ a → (j : Int) ≠ b → s.getD j default = 0) ∧ sr22_Check_L1 k n a b s m (i : Int) = some (.inr ())) ∨ ((¬ ∀ j : Nat, j < n.nodes.length → (j : Int) ≠ a → (j : Int) ≠ b → s.getD j default = 0) ∧ sr22_Check_L1 k n a b s m (i : Int) = some (.inl (0, false))) := by
  intro m
  induction m with
  | zero => intro i h1 h2; omega
  | succ m ih =>
    intro i h1 h2 h3
    rw [sr22_Check_L1]
    by_cases c : (i : Int) < (((n.nodes.length : Int).toNat) : Int)
    · have hi : i < n.nodes.length := by omega
      have next : ((i : Int) ≠ a → (i : Int) ≠ b → s.getD i default = 0) → _ := fun h => ih (i + 1) (by omega) (by omega) fun j hj => by rcases Nat.lt_succ_iff_lt_or_eq.1 hj with q | q; exact h3 j q; rw [q]; exact h
      rw [if_pos c, wr_succ i (by omega)]
      by_cases q1 : (i : Int) ≠ a
      · rw [if_pos q1]
        by_cases q2 : (i : Int) ≠ b
        · rw [if_pos q2, if_pos ⟨by omega, c⟩, if_pos (by omega), Int.toNat_natCast]
          by_cases q3 : s.getD i default ≠ 0
          · rw [if_pos q3]
            exact .inr ⟨fun h => q3 (h i hi q1 q2), rfl⟩
          · rw [if_neg q3]
            exact next fun _ _ => Classical.byContradiction q3
        · rw [if_neg q2]
          exact next fun _ h => absurd h q2
      · rw [if_neg q1]
        exact next fun h => absurd h q1
    · rw [if_neg c]
      exact .inl ⟨fun j hj => h3 j (by omega), rfl⟩
theorem rCheck_spec {k : Nat} {n : Net} {f : Failure} {a b : Int} {x : List Int} (hn : RightNet n) (ha : 0 ≤ a ∧ a < (n.nodes.length : Int)) (hb : 0 ≤ b ∧ b < (n.nodes.length : Int)) (hl : f.links.length < 9223372036854775808) (hk : f.links.length < k) (hk2 : 100 < k) : sr22_Check k n f a b x = some (flowVal n f a b x, decide (IsFlow n f a b x)) := by
  have hnl := hn.links
  have hnn := hn.nodes
  have no : ¬ IsFlow n f a b x → (some ((0 : Int), false) : Option (Int × Bool)) = some (flowVal n f a b x, decide (IsFlow n f a b x)) := fun h => by
    unfold flowVal; rw [if_neg h, decide_eq_false h]
  unfold sr22_Check
  by_cases c1 : a = b
  · rw [if_pos c1, Option.bind_some, if_pos rfl]
    exact no fun hh => hh.1 c1
  · rw [if_neg c1, Option.bind_some]
    by_cases c2 : x.length = n.links.length
    · rw [if_neg (by simp [c2]), if_pos ⟨by omega, by omega⟩]
      have e0 : List.replicate (n.nodes.length : Int).toNat (0 : Int) = restL n x 0 := by rw [restL_zero]; rfl
      rw [e0]
      rcases rCheck_L0 (x := x) hn c2 hl hk k 0 (by omega) (by omega) (fun j hj => by omega) with ⟨hg, h⟩ | ⟨hg, h⟩
      · rw [show ((0 : Nat) : Int) = 0 from rfl] at h
        rw [h, Option.bind_some, Sum.elim_inr]
        have hfull : ∀ v, exS (n.links.take x.length) (x.take x.length) v = exS n.links x v := fun v => by
          rw [List.take_of_length_le (by omega), List.take_of_length_le (Nat.le_refl _)]
        have hat : ∀ v : Nat, v < n.nodes.length → (restL n x x.length).getD v default = exS n.links x (v : Int) := fun v hv => by rw [restL_getD hv, hfull]
        have hv : (restL n x x.length).getD a.toNat default = exS n.links x a := by
          rw [hat _ (by omega)]; congr 1; omega
        rcases rCheck_L1 (k := k) (a := a) (b := b) (restL_len n x x.length) (by omega) k 0 (by omega) (by omega) (fun j hj => by omega) with ⟨hz, h⟩ | ⟨hz, h⟩
        · rw [show ((0 : Nat) : Int) = 0 from rfl] at h
          rw [h, Option.bind_some, Sum.elim_inr, if_pos ⟨by omega, by omega⟩, if_pos (by rw [restL_len]; omega), hv]
          by_cases c3 : exS n.links x a < 0
          · rw [if_pos c3]
            exact no fun hh => by have := hh.2.2.2.1; omega
          · rw [if_neg c3]
            have yes : IsFlow n f a b x := ⟨c1, c2, fun j hj => hg j (by omega), by omega, fun v h1 h2 h3 => by rw [← hat v h1]; exact hz v h1 h2 h3⟩
            unfold flowVal
            rw [if_pos yes, decide_eq_true yes]
        · rw [show ((0 : Nat) : Int) = 0 from rfl] at h
          rw [h, Option.bind_some, Sum.elim_inl]
          exact no fun hh => hz fun v h1 h2 h3 => by rw [hat v h1]; exact hh.2.2.2.2 v h1 h2 h3
      · rw [show ((0 : Nat) : Int) = 0 from rfl] at h
        rw [h, Option.bind_some, Sum.elim_inl]
        exact no fun hh => hg fun j hj => hh.2.2.1 j (by omega)
    · rw [if_pos (by simp only [ne_eq, decide_eq_true_eq]; omega)]
      exact no fun hh => c2 hh.2.1
end Go.Proofs.Ytfalnphlgfoflaa
