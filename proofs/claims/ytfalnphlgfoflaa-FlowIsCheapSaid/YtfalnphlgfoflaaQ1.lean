/- What the plain functions give: searching, links that are up, bounds. -/
import Derived.Test.YtfalnphlgfoflaaSB
import Derived.Test.YtfalnphlgfoflaaMx
namespace Go.Proofs.Ytfalnphlgfoflaa
open Go Go.RowKit
set_option linter.unusedSimpArgs false
set_option linter.unusedVariables false
theorem gx_nat {α : Type} [Inhabited α] (l : List α) (i : Nat) : gx l (i : Int) = l.getD i default := rfl
theorem wr_succ (i : Nat) (h : i < 9223372036854775807) : IntKind.i64.wrap ((i : Int) + 1) = ((i + 1 : Nat) : Int) := by
  rw [wr64 (by omega)]; push_cast; rfl
theorem take_ne {l : List Int} {v : Int} {i : Nat} (hi : i < l.length) (h : v ∉ l.take i) (h1 : v ≠ l.getD i default) : v ∉ l.take (i + 1) := by
  intro hm
  rw [List.take_add_one, get_some hi, Option.toList_some, List.mem_append, List.mem_singleton] at hm
  exact hm.elim h h1
theorem Index_L0 (k : Nat) (l : List Int) (v : Int) (hl : l.length < 9223372036854775808) : ∀ (m i : Nat), i ≤ l.length → l.length - i < m → v ∉ l.take i → ∃ r, sslices_Index_L0 k l v m (i : Int) = some r ∧ ((∃ j : Int, r = .inl j ∧ 0 ≤ j ∧ v ∈ l) ∨ (r = .inr () ∧ v ∉ l)) := by
  intro m
  induction m with
  | zero => intro i h1 h2; omega
  | succ m ih =>
    intro i h1 h2 h3
    rw [sslices_Index_L0]
    by_cases c : (i : Int) < (l.length : Int)
    · have hi : i < l.length := by omega
      rw [if_pos c, if_pos ⟨by omega, c⟩, gx_nat]
      by_cases c2 : v = l.getD i default
      · rw [if_pos c2]
        exact ⟨_, rfl, .inl ⟨_, rfl, by omega, by rw [c2]; exact getD_mem hi⟩⟩
      · rw [if_neg c2, wr_succ i (by omega)]
        exact ih (i + 1) (by omega) (by omega) (take_ne hi h3 c2)
    · rw [if_neg c]
      refine ⟨_, rfl, .inr ⟨rfl, ?_⟩⟩
      rwa [List.take_of_length_le (by omega)] at h3
theorem Contains_spec {k : Nat} {l : List Int} (v : Int) (hl : l.length < 9223372036854775808) (hk : l.length < k) : sslices_Contains k l v = some (decide (v ∈ l)) := by
  unfold sslices_Contains sslices_Index
  obtain ⟨r, h1, h2⟩ := Index_L0 k l v hl k 0 (by omega) (by omega) (by simp)
  rw [show ((0 : Nat) : Int) = 0 from rfl] at h1
  rw [h1]
  rcases h2 with ⟨j, rfl, hj, hm⟩ | ⟨rfl, hm⟩
  · simp [hj, hm]
  · simp [hm]
theorem Up_spec {k : Nat} {n : Net} {f : Failure} (hl : f.links.length < 9223372036854775808) (hk : f.links.length < k) {i : Nat} (hi : i < n.links.length) : sgraph_Up k n f (i : Int) = some (decide (UpP n f (i : Int))) := by
  unfold sgraph_Up
  rw [if_pos ⟨by omega, by omega⟩, Contains_spec _ hl hk]
  have e : gx n.links (i : Int) = lnk n (i : Int) := rfl
  rw [e]
  unfold UpP
  by_cases h1 : (lnk n (i : Int)).frm ≠ f.node
  · rw [if_pos h1]
    by_cases h2 : (lnk n (i : Int)).to ≠ f.node
    · rw [if_pos h2]; by_cases h3 : (i : Int) ∈ f.links <;> simp [h1, h2, h3]
    · rw [if_neg h2]; simp only [Option.some.injEq]; exact (decide_eq_false fun hh => h2 hh.2.2).symm
  · rw [if_neg h1]; simp only [Option.some.injEq]; exact (decide_eq_false fun hh => h1 hh.2.1).symm
theorem IndexFunc_L0 (k : Nat) (l : List Int) (p : Int → Option Bool) (q : Int → Bool) (hp : ∀ x, x ∈ l → p x = some (q x)) (hl : l.length < 9223372036854775808) : ∀ (m i : Nat), i ≤ l.length → l.length - i < m → (∀ x, x ∈ l.take i → q x = false) → ∃ r, sslices_IndexFunc_L0 k l p m (i : Int) = some r ∧ ((∃ j : Int, r = .inl j ∧ 0 ≤ j ∧ l.any q = true) ∨ (r = .inr () ∧ l.any q = false)) := by
  intro m
  induction m with
  | zero => intro i h1 h2; omega
  | succ m ih =>
    intro i h1 h2 h3
    rw [sslices_IndexFunc_L0]
    by_cases c : (i : Int) < (l.length : Int)
    · have hi : i < l.length := by omega
      rw [if_pos c, if_pos ⟨by omega, c⟩, gx_nat, hp _ (getD_mem hi), Option.bind_some]
      by_cases c2 : q (l.getD i default) = true
      · rw [if_pos c2]
        exact ⟨_, rfl, .inl ⟨_, rfl, by omega, List.any_eq_true.2 ⟨_, getD_mem hi, c2⟩⟩⟩
      · rw [if_neg c2, wr_succ i (by omega)]
        refine ih (i + 1) (by omega) (by omega) fun x hx => ?_
        rw [List.take_add_one, get_some hi, Option.toList_some, List.mem_append, List.mem_singleton] at hx
        rcases hx with hx | rfl
        · exact h3 x hx
        · simpa using c2
    · rw [if_neg c]
      refine ⟨_, rfl, .inr ⟨rfl, ?_⟩⟩
      rw [List.take_of_length_le (by omega)] at h3
      rw [List.any_eq_false]
      exact fun x hx => by rw [h3 x hx]; simp
theorem ContainsFunc_spec {k : Nat} {l : List Int} {p : Int → Option Bool} (q : Int → Bool) (hp : ∀ x, x ∈ l → p x = some (q x)) (hl : l.length < 9223372036854775808) (hk : l.length < k) : sslices_ContainsFunc k l p = some (l.any q) := by
  unfold sslices_ContainsFunc sslices_IndexFunc
  obtain ⟨r, h1, h2⟩ := IndexFunc_L0 k l p q hp hl k 0 (by omega) (by omega) (by simp)
  rw [show ((0 : Nat) : Int) = 0 from rfl] at h1
  rw [h1]
  rcases h2 with ⟨j, rfl, hj, hm⟩ | ⟨rfl, hm⟩
  · rw [hm]; simp [hj]
  · rw [hm]; simp
theorem bounded_spec {k : Nat} {l : List Int} (count most : Int) (hl : l.length < 9223372036854775808) (hk : l.length < k) : sflow_bounded k l count most = some (decide (Bound l count most)) := by
  unfold sflow_bounded
  rw [ContainsFunc_spec (fun x => decide (x < 0 ∨ most < x)) (fun x _ => by
    unfold sflow_bounded_1
    by_cases h : x < 0
    · rw [if_pos h]; simp [h]
    · rw [if_neg h]; simp [h]) hl hk]
  by_cases h : (l.length : Int) = count
  · rw [if_pos h, Option.bind_some]
    simp only [Option.some.injEq]
    rw [Bool.eq_iff_iff, decide_eq_true_iff, Bool.not_eq_true', List.any_eq_false]
    unfold Bound
    constructor
    · intro hh
      refine ⟨h, fun y hy => ?_⟩
      have := hh y hy
      simp only [decide_eq_true_eq] at this
      omega
    · intro hh y hy
      have := hh.2 y hy
      simp only [decide_eq_true_eq]
      omega
  · rw [if_neg h]
    simp only [Option.some.injEq]
    exact (decide_eq_false fun hh => h hh.1).symm
theorem isNode_spec {k : Nat} {n : Net} (v : Int) : sflow_isNode k n v = some (decide (isNodeP n v)) := by
  unfold sflow_isNode isNodeP
  by_cases h : 0 ≤ v
  · rw [if_pos h]; simp [h]
  · rw [if_neg h]; simp [h]
end Go.Proofs.Ytfalnphlgfoflaa
