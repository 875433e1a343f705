/- The document's functions of layer 22: what they give. -/
import Derived.Test.YtfalnphlgfoflaaSC
import Derived.Test.YtfalnphlgfoflaaQ3
namespace Go.Proofs.Ytfalnphlgfoflaa
open Go Go.RowKit
set_option linter.unusedSimpArgs false
set_option linter.unusedVariables false
theorem rUp_L0 (k : Nat) (f : Failure) (v : Int) (hl : f.links.length < 9223372036854775808) : ∀ (m i : Nat), i ≤ f.links.length → f.links.length - i < m → v ∉ f.links.take i → (v ∈ f.links ∧ sr09_Up_L0 k f v m (i : Int) = some (.inl false)) ∨ (v ∉ f.links ∧ sr09_Up_L0 k f v m (i : Int) = some (.inr ())) := by
  intro m
  induction m with
  | zero => intro i h1 h2; omega
  | succ m ih =>
    intro i h1 h2 h3
    rw [sr09_Up_L0]
    by_cases c : (i : Int) < (f.links.length : Int)
    · have hi : i < f.links.length := by omega
      rw [if_pos c, if_pos ⟨by omega, c⟩, gx_nat]
      by_cases c2 : f.links.getD i default = v
      · rw [if_pos c2]
        exact .inl ⟨by rw [← c2]; exact getD_mem hi, rfl⟩
      · rw [if_neg c2, wr_succ i (by omega)]
        exact ih (i + 1) (by omega) (by omega) (take_ne hi h3 fun e => c2 e.symm)
    · rw [if_neg c]
      refine .inr ⟨?_, rfl⟩
      rwa [List.take_of_length_le (by omega)] at h3
theorem rUp_spec {k : Nat} {n : Net} {f : Failure} (hl : f.links.length < 9223372036854775808) (hk : f.links.length < k) {i : Nat} (hi : i < n.links.length) : sr09_Up k n f (i : Int) = some (decide (UpP n f (i : Int))) := by
  unfold sr09_Up
  have e : gx n.links (i : Int) = lnk n (i : Int) := rfl
  rcases rUp_L0 k f (i : Int) hl k 0 (by omega) (by omega) (by simp) with ⟨h1, h⟩ | ⟨h1, h⟩
  · rw [show ((0 : Nat) : Int) = 0 from rfl] at h
    rw [h, Option.bind_some, Sum.elim_inl]
    simp only [Option.some.injEq]; exact (decide_eq_false fun hh => hh.1 h1).symm
  · rw [show ((0 : Nat) : Int) = 0 from rfl] at h
    rw [h, Option.bind_some, Sum.elim_inr, if_pos ⟨by omega, by omega⟩, e]
    unfold UpP
    by_cases h2 : (lnk n (i : Int)).frm ≠ f.node
    · rw [if_pos h2]
      by_cases h3 : (lnk n (i : Int)).to ≠ f.node <;> simp [h1, h2, h3]
    · rw [if_neg h2]; simp only [Option.some.injEq]; exact (decide_eq_false fun hh => h2 hh.2.1).symm
theorem risNode_spec {k : Nat} {n : Net} (v : Int) : sr22_isNode k n v = some (decide (isNodeP n v)) := by
  unfold sr22_isNode isNodeP
  by_cases h : 0 ≤ v
  · rw [if_pos h]; simp [h]
  · rw [if_neg h]; simp [h]
noncomputable instance (n : Net) (cut : List Int) : Decidable (CutOk n cut) := Classical.propDecidable _
end Go.Proofs.Ytfalnphlgfoflaa
