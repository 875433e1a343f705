/- The document's Check, Greatest and Cheapest: the same as the program's. -/
import Derived.Test.YtfalnphlgfoflaaQ6
namespace Go.Proofs.Ytfalnphlgfoflaa
open Go Go.RowKit
set_option linter.unusedSimpArgs false
set_option linter.unusedVariables false
theorem rCheck_L0 {k : Nat} {n : Net} {f : Failure} {x : List Int} (hn : RightNet n) (hx : x.length = n.links.length) (hl : f.links.length < 9223372036854775808) (hk : f.links.length < k) : ∀ (m i : Nat), i ≤ x.length → x.length - i < m → (∀ j, j < i → GoodK n f x j) →
    ((∀ j, j < x.length → GoodK n f x j) ∧ sr22_Check_L0 k n f x m (i : Int) (restL n x i) = some (.inr (restL n x x.length))) ∨ ((¬ ∀ j, j < x.length → GoodK n f x j) ∧ sr22_Check_L0 k n f x m (i : Int) (restL n x i) = some (.inl (0, false))) := by
  have hnl := hn.links
  have hnn := hn.nodes
  intro m
  induction m with
  | zero => intro i h1 h2; omega
  | succ m ih =>
    intro i h1 h2 h3
    rw [sr22_Check_L0]
    by_cases c : (i : Int) < (x.length : Int)
    · have hi : i < x.length := by omega
      have hi2 : i < n.links.length := by omega
      have hf := hn.frm i hi2
      have ht := hn.to i hi2
      rw [if_pos c, if_pos ⟨by omega, by omega⟩, rUp_spec hl hk hi2, Option.bind_some, if_pos ⟨by omega, c⟩, gx_nat x i, gx_nat n.links i]
      by_cases hg : GoodK n f x i
      · have e : ((if x.getD i default < 0 then some true else (if (n.links.getD i default).cap < x.getD i default then some true else (if decide (UpP n f (i : Int)) = true then some false else some (decide (0 < x.getD i default))))) : Option Bool) = some false := by
          obtain ⟨g1, g2, g3⟩ := id hg
          rw [if_neg (by omega), if_neg (by omega)]
          by_cases h0 : 0 < x.getD i default
          · rw [if_pos (decide_eq_true (g3 h0))]
          · rw [decide_eq_false h0]; split <;> rfl
        rw [e, Option.bind_some, if_neg (by simp), if_pos ⟨by omega, by omega⟩, if_pos (by rw [restL_len]; omega), if_pos ⟨by omega, c⟩, if_pos ⟨by omega, by omega⟩, if_pos (by rw [List.length_set, restL_len]; omega), wr_succ i (by omega), set2 hn hx hi2 h3 ⟨hg.1, hg.2.1⟩]
        exact ih (i + 1) (by omega) (by omega) fun j hj => by rcases Nat.lt_succ_iff_lt_or_eq.1 hj with q | q; exact h3 j q; rw [q]; exact hg
      · have e : ((if x.getD i default < 0 then some true else (if (n.links.getD i default).cap < x.getD i default then some true else (if decide (UpP n f (i : Int)) = true then some false else some (decide (0 < x.getD i default))))) : Option Bool) = some true := by
          by_cases q1 : x.getD i default < 0
          · rw [if_pos q1]
          · rw [if_neg q1]
            by_cases q2 : (n.links.getD i default).cap < x.getD i default
            · rw [if_pos q2]
            · rw [if_neg q2]
              have q3 : 0 < x.getD i default ∧ ¬ UpP n f (i : Int) := by
                refine Classical.byContradiction fun hh => hg ⟨by omega, by omega, fun h0 => ?_⟩
                exact Classical.byContradiction fun hu => hh ⟨h0, hu⟩
              rw [if_neg (by simpa using q3.2), decide_eq_true q3.1]
        rw [e, Option.bind_some, if_pos rfl]
        exact .inr ⟨fun hh => hg (hh i hi), rfl⟩
    · rw [if_neg c]
      have : i = x.length := by omega
      subst this
      exact .inl ⟨h3, rfl⟩
theorem rCheck_L1 {k : Nat} {n : Net} {a b : Int} {s : List Int} (hs : s.length = n.nodes.length) (hn : n.nodes.length < 9223372036854775808) : ∀ (m i : Nat), i ≤ n.nodes.length → n.nodes.length - i < m → (∀ j : Nat, j < i → (j : Int) ≠ a → (j : Int) ≠ b → s.getD j default = 0) →
    ((∀ j : Nat, j < n.nodes.length → (j : Int) ≠ a → (j : Int) ≠ b → s.getD j default = 0) ∧ sr22_Check_L1 k n a b s m (i : Int) = some (.inr ())) ∨ ((¬ ∀ j : Nat, j < n.nodes.length → (j : Int) ≠ a → (j : Int) ≠ b → s.getD j default = 0) ∧ sr22_Check_L1 k n a b s m (i : Int) = some (.inl (0, false))) := by
  intro m
  induction m with
  | zero => intro i h1 h2; omega
  | succ m ih =>
    intro i h1 h2 h3
    rw [sr22_Check_L1]
    by_cases c : (i : Int) < (((n.nodes.length : Int).toNat) : Int)
    · have hi : i < n.nodes.length := by omega
      have next : ((i : Int) ≠ a → (i : Int) ≠ b → s.getD i default = 0) → _ := fun h => ih (i + 1) (by omega) (by omega) fun j hj => by rcases Nat.lt_succ_iff_lt_or_eq.1 hj with q | q; exact h3 j q; rw [q]; exact h
      rw [if_pos c, wr_succ i (by omega)]
      by_cases q1 : (i : Int) ≠ a
      · rw [if_pos q1]
        by_cases q2 : (i : Int) ≠ b
        · rw [if_pos q2, if_pos ⟨by omega, c⟩, if_pos (by omega), Int.toNat_natCast]
          by_cases q3 : s.getD i default ≠ 0
          · rw [if_pos q3]
            exact .inr ⟨fun h => q3 (h i hi q1 q2), rfl⟩
          · rw [if_neg q3]
            exact next fun _ _ => Classical.byContradiction q3
        · rw [if_neg q2]
          exact next fun _ h => absurd h q2
      · rw [if_neg q1]
        exact next fun h => absurd h q1
    · rw [if_neg c]
      exact .inl ⟨fun j hj => h3 j (by omega), rfl⟩
theorem rCheck_spec {k : Nat} {n : Net} {f : Failure} {a b : Int} {x : List Int} (hn : RightNet n) (ha : 0 ≤ a ∧ a < (n.nodes.length : Int)) (hb : 0 ≤ b ∧ b < (n.nodes.length : Int)) (hl : f.links.length < 9223372036854775808) (hk : f.links.length < k) (hk2 : 100 < k) : sr22_Check k n f a b x = some (flowVal n f a b x, decide (IsFlow n f a b x)) := by
  have hnl := hn.links
  have hnn := hn.nodes
  have no : ¬ IsFlow n f a b x → (some ((0 : Int), false) : Option (Int × Bool)) = some (flowVal n f a b x, decide (IsFlow n f a b x)) := fun h => by
    unfold flowVal; rw [if_neg h, decide_eq_false h]
  unfold sr22_Check
  by_cases c1 : a = b
  · rw [if_pos c1, Option.bind_some, if_pos rfl]
    exact no fun hh => hh.1 c1
  · rw [if_neg c1, Option.bind_some]
    by_cases c2 : x.length = n.links.length
    · rw [if_neg (by simp [c2]), if_pos ⟨by omega, by omega⟩]
      have e0 : List.replicate (n.nodes.length : Int).toNat (0 : Int) = restL n x 0 := by rw [restL_zero]; rfl
      rw [e0]
      rcases rCheck_L0 (x := x) hn c2 hl hk k 0 (by omega) (by omega) (fun j hj => by omega) with ⟨hg, h⟩ | ⟨hg, h⟩
      · rw [show ((0 : Nat) : Int) = 0 from rfl] at h
        rw [h, Option.bind_some, Sum.elim_inr]
        have hfull : ∀ v, exS (n.links.take x.length) (x.take x.length) v = exS n.links x v := fun v => by
          rw [List.take_of_length_le (by omega), List.take_of_length_le (Nat.le_refl _)]
        have hat : ∀ v : Nat, v < n.nodes.length → (restL n x x.length).getD v default = exS n.links x (v : Int) := fun v hv => by rw [restL_getD hv, hfull]
        have hv : (restL n x x.length).getD a.toNat default = exS n.links x a := by
          rw [hat _ (by omega)]; congr 1; omega
        rcases rCheck_L1 (k := k) (a := a) (b := b) (restL_len n x x.length) (by omega) k 0 (by omega) (by omega) (fun j hj => by omega) with ⟨hz, h⟩ | ⟨hz, h⟩
        · rw [show ((0 : Nat) : Int) = 0 from rfl] at h
          rw [h, Option.bind_some, Sum.elim_inr, if_pos ⟨by omega, by omega⟩, if_pos (by rw [restL_len]; omega), hv]
          by_cases c3 : exS n.links x a < 0
          · rw [if_pos c3]
            exact no fun hh => by have := hh.2.2.2.1; omega
          · rw [if_neg c3]
            have yes : IsFlow n f a b x := ⟨c1, c2, fun j hj => hg j (by omega), by omega, fun v h1 h2 h3 => by rw [← hat v h1]; exact hz v h1 h2 h3⟩
            unfold flowVal
            rw [if_pos yes, decide_eq_true yes]
        · rw [show ((0 : Nat) : Int) = 0 from rfl] at h
          rw [h, Option.bind_some, Sum.elim_inl]
          exact no fun hh => hz fun v h1 h2 h3 => by rw [hat v h1]; exact hh.2.2.2.2 v h1 h2 h3
      · rw [show ((0 : Nat) : Int) = 0 from rfl] at h
        rw [h, Option.bind_some, Sum.elim_inl]
        exact no fun hh => hg fun j hj => hh.2.2.1 j (by omega)
    · rw [if_pos (by simp only [ne_eq, decide_eq_true_eq]; omega)]
      exact no fun hh => c2 hh.2.1
theorem rGreatest_spec {k : Nat} {n : Net} {f : Failure} {a b : Int} {x cut : List Int} (hn : RightNet n) (ha : 0 ≤ a ∧ a < (n.nodes.length : Int)) (hb : 0 ≤ b ∧ b < (n.nodes.length : Int)) (hl : f.links.length < 9223372036854775808) (hk : f.links.length < k) (hc : cut.length < 9223372036854775808) (hkc : cut.length < k) (hk2 : 100 < k) : ∃ r, sr22_Greatest k n f a b x cut = some r ∧ (r = true ↔ IsGreatest n f a b x cut) := by
  unfold sr22_Greatest
  rw [rCheck_spec hn ha hb hl hk hk2, Option.bind_some, rIsCut_spec hc hkc, Option.bind_some, rhas_spec _ hc hkc, Option.bind_some, rhas_spec _ hc hkc, Option.bind_some, rCapacity_spec hn hl hk hc hkc hk2]
  by_cases q1 : IsFlow n f a b x
  · by_cases q0 : CutOk n cut
    · by_cases q2 : a ∈ cut
      · by_cases q3 : b ∈ cut
        · exact ⟨false, by simp [q0, q1, q2, q3], by simp [IsGreatest, q3]⟩
        · refine ⟨decide (capS n f cut n.links.length = flowVal n f a b x), by simp [q0, q1, q2, q3], ?_⟩
          rw [decide_eq_true_iff]
          exact ⟨fun h => ⟨q0, q1, q2, q3, h⟩, fun h => h.2.2.2.2⟩
      · exact ⟨false, by simp [q0, q1, q2], by simp [IsGreatest, q2]⟩
    · exact ⟨false, by simp [q0, q1], by simp [IsGreatest, q0]⟩
  · exact ⟨false, by simp [q1], by simp [IsGreatest, q1]⟩
theorem rCheapest_L0 {k : Nat} {l : List Int} (hc : l.length < 9223372036854775808) : ∀ (m i : Nat), i ≤ l.length → l.length - i < m → (∀ j, j < i → 0 ≤ l.getD j default ∧ l.getD j default ≤ 4294967296) →
    ((∀ j, j < l.length → 0 ≤ l.getD j default ∧ l.getD j default ≤ 4294967296) ∧ sr22_Cheapest_L0 k l m (i : Int) = some (.inr ())) ∨ ((¬ ∀ j, j < l.length → 0 ≤ l.getD j default ∧ l.getD j default ≤ 4294967296) ∧ sr22_Cheapest_L0 k l m (i : Int) = some (.inl false)) := by
  intro m
  induction m with
  | zero => intro i h1 h2; omega
  | succ m ih =>
    intro i h1 h2 h3
    rw [sr22_Cheapest_L0]
    by_cases c : (i : Int) < (l.length : Int)
    · have hi : i < l.length := by omega
      rw [if_pos c, if_pos ⟨by omega, c⟩, wr_succ i (by omega), gx_nat l i]
      by_cases q1 : l.getD i default < 0
      · rw [if_pos q1]
        exact .inr ⟨fun h => by have := h i hi; omega, rfl⟩
      · rw [if_neg q1]
        by_cases q2 : 4294967296 < l.getD i default
        · rw [if_pos q2]
          exact .inr ⟨fun h => by have := h i hi; omega, rfl⟩
        · rw [if_neg q2]
          exact ih (i + 1) (by omega) (by omega) fun j hj => by rcases Nat.lt_succ_iff_lt_or_eq.1 hj with q | q; exact h3 j q; rw [q]; omega
    · rw [if_neg c]
      exact .inl ⟨fun j hj => h3 j (by omega), rfl⟩
theorem rCheapest_L1 {k : Nat} {n : Net} {f : Failure} {prices x pot : List Int} (hn : RightNet n) (hx : x.length = n.links.length) (hP : Bound prices n.links.length 1048576) (hQ : Bound pot n.nodes.length 4294967296) (hl : f.links.length < 9223372036854775808) (hk : f.links.length < k) : ∀ (m i : Nat), i ≤ n.links.length → n.links.length - i < m → (∀ j, j < i → CheapK n f prices x pot j) →
    ((∀ j, j < n.links.length → CheapK n f prices x pot j) ∧ sr22_Cheapest_L1 k n f prices x pot m (i : Int) = some (.inr ())) ∨ ((¬ ∀ j, j < n.links.length → CheapK n f prices x pot j) ∧ sr22_Cheapest_L1 k n f prices x pot m (i : Int) = some (.inl false)) := by
  have hnl := hn.links
  have hnn := hn.nodes
  have hP1 := hP.1
  have hQ1 := hQ.1
  intro m
  induction m with
  | zero => intro i h1 h2; omega
  | succ m ih =>
    intro i h1 h2 h3
    rw [sr22_Cheapest_L1]
    by_cases c : (i : Int) < (n.links.length : Int)
    · have hi : i < n.links.length := by omega
      have hf := hn.frm i hi
      have ht := hn.to i hi
      have r1 := hP.2 (prices.getD i default) (getD_mem (by omega))
      have r2 := hQ.2 (pot.getD (n.links.getD i default).frm.toNat default) (getD_mem (by omega))
      have r3 := hQ.2 (pot.getD (n.links.getD i default).to.toNat default) (getD_mem (by omega))
      have next : CheapK n f prices x pot i → _ := fun h => ih (i + 1) (by omega) (by omega) fun j hj => by rcases Nat.lt_succ_iff_lt_or_eq.1 hj with q | q; exact h3 j q; rw [q]; exact h
      have e1 : gx pot (n.links.getD i default).frm = pot.getD (n.links.getD i default).frm.toNat default := rfl
      have e2 : gx pot (n.links.getD i default).to = pot.getD (n.links.getD i default).to.toNat default := rfl
      have e3 : redK n prices pot i = prices.getD i default + pot.getD (n.links.getD i default).frm.toNat default - pot.getD (n.links.getD i default).to.toNat default := rfl
      rw [if_pos c, if_pos ⟨by omega, c⟩, rUp_spec hl hk hi, Option.bind_some, wr_succ i (by omega), gx_nat n.links i, gx_nat x i, gx_nat prices i, e1, e2, wr64 (n := prices.getD i default + pot.getD (n.links.getD i default).frm.toNat default) (by omega), wr64 (n := prices.getD i default + pot.getD (n.links.getD i default).frm.toNat default - pot.getD (n.links.getD i default).to.toNat default) (by omega), ← e3, if_pos ⟨by omega, by omega⟩, if_pos ⟨by omega, by omega⟩, if_pos ⟨by omega, by omega⟩]
      by_cases q0 : UpP n f (i : Int)
      · rw [if_pos (decide_eq_true q0), if_pos ⟨by omega, by omega⟩]
        have tail : ¬ (redK n prices pot i < 0 ∧ x.getD i default < (n.links.getD i default).cap) →
            ((∀ j, j < n.links.length → CheapK n f prices x pot j) ∧ (if 0 < x.getD i default then (if 0 < redK n prices pot i then some (.inl false) else sr22_Cheapest_L1 k n f prices x pot m ((i + 1 : Nat) : Int)) else sr22_Cheapest_L1 k n f prices x pot m ((i + 1 : Nat) : Int)) = some (.inr ())) ∨ ((¬ ∀ j, j < n.links.length → CheapK n f prices x pot j) ∧ (if 0 < x.getD i default then (if 0 < redK n prices pot i then some (.inl false) else sr22_Cheapest_L1 k n f prices x pot m ((i + 1 : Nat) : Int)) else sr22_Cheapest_L1 k n f prices x pot m ((i + 1 : Nat) : Int)) = some (.inl false)) := fun hh => by
          by_cases q4 : 0 < x.getD i default
          · rw [if_pos q4]
            by_cases q3 : 0 < redK n prices pot i
            · rw [if_pos q3]
              exact .inr ⟨fun h => (h i hi q0).2 ⟨q3, q4⟩, rfl⟩
            · rw [if_neg q3]
              exact next fun _ => ⟨hh, fun h => q3 h.1⟩
          · rw [if_neg q4]
            exact next fun _ => ⟨hh, fun h => q4 h.2⟩
        by_cases q2 : x.getD i default < (n.links.getD i default).cap
        · rw [if_pos q2]
          by_cases q1 : redK n prices pot i < 0
          · rw [if_pos q1]
            exact .inr ⟨fun h => (h i hi q0).1 ⟨q1, q2⟩, rfl⟩
          · rw [if_neg q1]
            exact tail fun h => q1 h.1
        · rw [if_neg q2]
          exact tail fun h => q2 h.2
      · rw [if_neg (by simpa using q0)]
        exact next fun h => absurd h q0
    · rw [if_neg c]
      exact .inl ⟨fun j hj => h3 j (by omega), rfl⟩
theorem rCheapest_spec {k : Nat} {n : Net} {f : Failure} {a b : Int} {prices x pot : List Int} (hn : RightNet n) (ha : 0 ≤ a ∧ a < (n.nodes.length : Int)) (hb : 0 ≤ b ∧ b < (n.nodes.length : Int)) (hl : f.links.length < 9223372036854775808) (hk : 9223372036854775808 ≤ k) (hp : prices.length < 9223372036854775808) (hq : pot.length < 9223372036854775808) :
    ∃ r, sr22_Cheapest k n f prices a b x pot = some r ∧ (r = true ↔ IsCheapest n f prices a b x pot) := by
  have hnl := hn.links
  unfold sr22_Cheapest
  rw [rCheck_spec hn ha hb hl (by omega) (by omega), Option.bind_some, rPrices_spec hp (by omega), Option.bind_some]
  by_cases q1 : IsFlow n f a b x
  · by_cases q2 : Bound prices n.links.length 1048576
    · by_cases q4 : pot.length = n.nodes.length
      · rcases rCheapest_L0 (k := k) hq k 0 (by omega) (by omega) (fun j hj => by omega) with ⟨h1, h⟩ | ⟨h1, h⟩
        · rw [show ((0 : Nat) : Int) = 0 from rfl] at h
          have q3 : Bound pot n.nodes.length 4294967296 := ⟨by omega, (all_getD (P := fun y => 0 ≤ y ∧ y ≤ 4294967296)).1 h1⟩
          rcases rCheapest_L1 (f := f) hn q1.2.1 q2 q3 hl (show f.links.length < k by omega) k 0 (by omega) (by omega) (fun j hj => by omega) with ⟨h2, g⟩ | ⟨h2, g⟩
          · rw [show ((0 : Nat) : Int) = 0 from rfl] at g
            exact ⟨true, by simp [q1, q2, q4, h, g], by simp [IsCheapest, q1, q2, q3]; exact h2⟩
          · rw [show ((0 : Nat) : Int) = 0 from rfl] at g
            exact ⟨false, by simp [q1, q2, q4, h, g], by simp only [Bool.false_eq_true, false_iff]; exact fun hh => h2 hh.2.2.2⟩
        · rw [show ((0 : Nat) : Int) = 0 from rfl] at h
          exact ⟨false, by simp [q1, q2, q4, h], by simp only [Bool.false_eq_true, false_iff]; exact fun hh => h1 ((all_getD (P := fun y => 0 ≤ y ∧ y ≤ 4294967296)).2 hh.2.2.1.2)⟩
      · exact ⟨false, by simp [q1, q2, show ¬ (pot.length : Int) = (n.nodes.length : Int) by omega, q4], by simp only [Bool.false_eq_true, false_iff]; exact fun hh => q4 (by have := hh.2.2.1.1; omega)⟩
    · exact ⟨false, by simp [q1, q2], by simp [IsCheapest, q2]⟩
  · exact ⟨false, by simp [q1], by simp [IsCheapest, q1]⟩
end Go.Proofs.Ytfalnphlgfoflaa
