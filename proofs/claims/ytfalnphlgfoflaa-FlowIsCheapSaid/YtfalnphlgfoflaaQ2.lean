/- What the plain functions of flow give. -/
import Derived.Test.YtfalnphlgfoflaaQ1
namespace Go.Proofs.Ytfalnphlgfoflaa
open Go Go.RowKit
set_option linter.unusedSimpArgs false
set_option linter.unusedVariables false
theorem getD_set_ne {α : Type} {l : List α} {i j : Nat} {v d : α} (h : i ≠ j) : (l.set i v).getD j d = l.getD j d := by
  rw [List.getD_eq_getElem?_getD, List.getD_eq_getElem?_getD, List.getElem?_set_ne h]
theorem restL_bound {n : Net} {f : Failure} {x : List Int} (hn : RightNet n) (hx : x.length = n.links.length) {i v : Nat} (hi : i ≤ n.links.length) (hv : v < n.nodes.length) (hg : ∀ k, k < i → GoodK n f x k) : -25165824 ≤ (restL n x i).getD v default ∧ (restL n x i).getD v default ≤ 25165824 := by
  rw [restL_getD hv]
  have := exS_bound hn hx (v : Int) i hi hg
  have := hn.links
  omega
theorem set2 {n : Net} {f : Failure} {x : List Int} (hn : RightNet n) (hx : x.length = n.links.length) {i : Nat} (hi : i < n.links.length) (hg : ∀ k, k < i → GoodK n f x k) (h0 : 0 ≤ x.getD i default ∧ x.getD i default ≤ (n.links.getD i default).cap) :
    ((restL n x i).set (n.links.getD i default).frm.toNat (IntKind.i64.wrap ((restL n x i).getD (n.links.getD i default).frm.toNat default + x.getD i default))).set (n.links.getD i default).to.toNat (IntKind.i64.wrap (((restL n x i).set (n.links.getD i default).frm.toNat (IntKind.i64.wrap ((restL n x i).getD (n.links.getD i default).frm.toNat default + x.getD i default))).getD (n.links.getD i default).to.toNat default - x.getD i default)) = restL n x (i + 1) := by
  have hf := hn.frm i hi
  have ht := hn.to i hi
  have hc := hn.cap i hi
  have b1 := restL_bound (v := (n.links.getD i default).frm.toNat) hn hx (Nat.le_of_lt hi) (by omega) hg
  have b2 := restL_bound (v := (n.links.getD i default).to.toNat) hn hx (Nat.le_of_lt hi) (by omega) hg
  rw [wr64 (by omega)]
  have e : ((restL n x i).set (n.links.getD i default).frm.toNat ((restL n x i).getD (n.links.getD i default).frm.toNat default + x.getD i default)).getD (n.links.getD i default).to.toNat default = (restL n x i).getD (n.links.getD i default).to.toNat default := by
    have hne := hn.apart i hi
    exact getD_set_ne (by omega)
  rw [wr64 (by rw [e]; omega)]
  exact rest_step hi (by omega) (f := (n.links.getD i default).frm.toNat) (t := (n.links.getD i default).to.toNat) (by omega) (by omega) (by omega) (by omega)
theorem Check_L0 {k : Nat} {n : Net} {f : Failure} {x : List Int} (hn : RightNet n) (hx : x.length = n.links.length) (hl : f.links.length < 9223372036854775808) (hk : f.links.length < k) : ∀ (m i : Nat), i ≤ x.length → x.length - i < m → (∀ j, j < i → GoodK n f x j) →
    ((∀ j, j < x.length → GoodK n f x j) ∧ sflow_Check_L0 k n f x m (i : Int) (restL n x i) = some (.inr (restL n x x.length))) ∨ ((¬ ∀ j, j < x.length → GoodK n f x j) ∧ sflow_Check_L0 k n f x m (i : Int) (restL n x i) = some (.inl (0, false))) := by
  have hnl := hn.links
  have hnn := hn.nodes
  intro m
  induction m with
  | zero => intro i h1 h2; omega
  | succ m ih =>
    intro i h1 h2 h3
    rw [sflow_Check_L0]
    by_cases c : (i : Int) < (x.length : Int)
    · have hi : i < x.length := by omega
      have hi2 : i < n.links.length := by omega
      have hf := hn.frm i hi2
      have ht := hn.to i hi2
      rw [if_pos c, if_pos ⟨by omega, c⟩, if_pos ⟨by omega, by omega⟩, gx_nat x i, gx_nat n.links i]
      by_cases hg : GoodK n f x i
      · have e : ((if x.getD i default < 0 then some true else (if (n.links.getD i default).cap < x.getD i default then some true else (if 0 < x.getD i default then ((sgraph_Up k n f (i : Int)).bind fun rUp => some (!rUp)) else some false))) : Option Bool) = some false := by
          obtain ⟨g1, g2, g3⟩ := id hg
          rw [if_neg (by omega), if_neg (by omega)]
          by_cases h0 : 0 < x.getD i default
          · rw [if_pos h0, Up_spec hl hk hi2, Option.bind_some, decide_eq_true (g3 h0)]; rfl
          · rw [if_neg h0]
        rw [e, Option.bind_some, if_neg (by simp), if_pos ⟨by omega, by omega⟩, if_pos (by rw [restL_len]; omega), if_pos ⟨by omega, by omega⟩, if_pos (by rw [List.length_set, restL_len]; omega), wr_succ i (by omega), set2 hn hx hi2 h3 ⟨hg.1, hg.2.1⟩]
        exact ih (i + 1) (by omega) (by omega) fun j hj => by rcases Nat.lt_succ_iff_lt_or_eq.1 hj with q | q; exact h3 j q; rw [q]; exact hg
      · have e : ((if x.getD i default < 0 then some true else (if (n.links.getD i default).cap < x.getD i default then some true else (if 0 < x.getD i default then ((sgraph_Up k n f (i : Int)).bind fun rUp => some (!rUp)) else some false))) : Option Bool) = some true := by
          by_cases q1 : x.getD i default < 0
          · rw [if_pos q1]
          · rw [if_neg q1]
            by_cases q2 : (n.links.getD i default).cap < x.getD i default
            · rw [if_pos q2]
            · rw [if_neg q2]
              have q3 : 0 < x.getD i default ∧ ¬ UpP n f (i : Int) := by
                refine Classical.byContradiction fun hh => hg ⟨by omega, by omega, fun h0 => ?_⟩
                exact Classical.byContradiction fun hu => hh ⟨h0, hu⟩
              rw [if_pos q3.1, Up_spec hl hk hi2, Option.bind_some, decide_eq_false q3.2]; rfl
        rw [e, Option.bind_some, if_pos rfl]
        exact .inr ⟨fun hh => hg (hh i hi), rfl⟩
    · rw [if_neg c]
      have : i = x.length := by omega
      subst this
      exact .inl ⟨h3, rfl⟩
theorem Check_spec {k : Nat} {n : Net} {f : Failure} {a b : Int} {x : List Int} (hn : RightNet n) (ha : 0 ≤ a ∧ a < (n.nodes.length : Int)) (hb : 0 ≤ b ∧ b < (n.nodes.length : Int)) (hl : f.links.length < 9223372036854775808) (hk : f.links.length < k) (hk2 : 100 < k) : sflow_Check k n f a b x = some (flowVal n f a b x, decide (IsFlow n f a b x)) := by
  have hnl := hn.links
  have hnn := hn.nodes
  have no : ¬ IsFlow n f a b x → (some ((0 : Int), false) : Option (Int × Bool)) = some (flowVal n f a b x, decide (IsFlow n f a b x)) := fun h => by
    unfold flowVal; rw [if_neg h, decide_eq_false h]
  unfold sflow_Check
  by_cases c1 : a = b
  · rw [if_pos c1, Option.bind_some, if_pos rfl]
    exact no fun hh => hh.1 c1
  · rw [if_neg c1, Option.bind_some]
    by_cases c2 : x.length = n.links.length
    · rw [if_neg (by simp [c2]), if_pos ⟨by omega, by omega⟩]
      have e0 : List.replicate (n.nodes.length : Int).toNat (0 : Int) = restL n x 0 := by rw [restL_zero]; rfl
      rw [e0]
      rcases Check_L0 (x := x) hn c2 hl hk k 0 (by omega) (by omega) (fun j hj => by omega) with ⟨hg, h⟩ | ⟨hg, h⟩
      · rw [show ((0 : Nat) : Int) = 0 from rfl] at h
        rw [h, Option.bind_some, Sum.elim_inr]
        have hfull : ∀ v, exS (n.links.take x.length) (x.take x.length) v = exS n.links x v := fun v => by
          rw [List.take_of_length_le (by omega), List.take_of_length_le (Nat.le_refl _)]
        have ha' : a.toNat < (restL n x x.length).length := by rw [restL_len]; omega
        have hb' : b.toNat < ((restL n x x.length).set a.toNat 0).length := by rw [List.length_set, restL_len]; omega
        rw [if_pos ⟨by omega, by omega⟩, if_pos ha', if_pos ⟨by omega, by omega⟩, if_pos hb']
        have hv : (restL n x x.length).getD a.toNat default = exS n.links x a := by
          rw [restL_getD (by omega), hfull]; congr 1; omega
        rw [hv]
        by_cases c3 : exS n.links x a < 0
        · rw [if_pos c3]
          exact no fun hh => by have := hh.2.2.2.1; omega
        · rw [if_neg c3, if_pos (by rw [List.length_set, List.length_set, restL_len]; rfl), ContainsFunc_spec (p := fun y => sflow_Check_1 k y) (fun y => decide (y ≠ 0)) (fun _ _ => rfl) (by rw [List.length_set, List.length_set, restL_len]; omega) (by rw [List.length_set, List.length_set, restL_len]; omega), Option.bind_some]
          have hany : (((restL n x x.length).set a.toNat 0).set b.toNat 0).any (fun y => decide (y ≠ 0)) = true ↔ ∃ v, v < n.nodes.length ∧ (v : Int) ≠ a ∧ (v : Int) ≠ b ∧ exS n.links x (v : Int) ≠ 0 := by
            rw [List.any_eq_true]
            constructor
            · rintro ⟨y, hy, hq⟩
              obtain ⟨v, hv1, rfl⟩ := List.getElem_of_mem hy
              have hv2 : v < n.nodes.length := by rw [List.length_set, List.length_set, restL_len] at hv1; exact hv1
              simp only [List.getElem_set, decide_eq_true_eq, ne_eq] at hq
              refine ⟨v, hv2, fun h => ?_, fun h => ?_, ?_⟩
              · split at hq
                · exact hq rfl
                · rw [if_pos (by omega)] at hq; exact hq rfl
              · rw [if_pos (by omega)] at hq; exact hq rfl
              · split at hq
                · exact absurd rfl hq
                · split at hq
                  · exact absurd rfl hq
                  · rw [← getD_of, restL_getD hv2, hfull] at hq; exact hq
            · rintro ⟨v, h1, h2, h3, h4⟩
              have hl' : v < (((restL n x x.length).set a.toNat 0).set b.toNat 0).length := by rw [List.length_set, List.length_set, restL_len]; exact h1
              refine ⟨_, List.getElem_mem hl', ?_⟩
              simp only [List.getElem_set, decide_eq_true_eq, ne_eq]
              rw [if_neg (by omega), if_neg (by omega), ← getD_of, restL_getD h1, hfull]
              exact h4
          by_cases c4 : (((restL n x x.length).set a.toNat 0).set b.toNat 0).any (fun y => decide (y ≠ 0)) = true
          · rw [c4, if_pos rfl]
            obtain ⟨v, h1, h2, h3, h4⟩ := hany.1 c4
            exact no fun hh => h4 (hh.2.2.2.2 v h1 h2 h3)
          · rw [if_neg c4]
            have yes : IsFlow n f a b x := ⟨c1, c2, fun j hj => hg j (by omega), by omega, fun v h1 h2 h3 => Classical.byContradiction fun h4 => c4 (hany.2 ⟨v, h1, h2, h3, h4⟩)⟩
            unfold flowVal
            rw [if_pos yes, decide_eq_true yes]
      · rw [show ((0 : Nat) : Int) = 0 from rfl] at h
        rw [h, Option.bind_some, Sum.elim_inl]
        exact no fun hh => hg fun j hj => hh.2.2.1 j (by omega)
    · rw [if_pos (by simp only [ne_eq, decide_eq_true_eq]; omega)]
      exact no fun hh => c2 hh.2.1
end Go.Proofs.Ytfalnphlgfoflaa
