/- Strands: the document's function. -/
import Derived.Test.YtfalnphlgfoflaaQ8
namespace Go.Proofs.Ytfalnphlgfoflaa
open Go Go.RowKit
set_option linter.unusedSimpArgs false
set_option linter.unusedVariables false
def StrandOk (n : Net) (a b : Int) (s : Strand) (left : List Int) : Prop := 1 ≤ s.amount ∧ PathOk n a b s.links ∧ ∀ i, i < s.links.length → EnoughK s.links s.amount left i
def afterL (l : List Strand) (x : List Int) : Nat → List Int
  | 0 => x
  | i + 1 => subL (l.getD i default).links (l.getD i default).amount (afterL l x i) (l.getD i default).links.length
def StrandsOk (n : Net) (a b : Int) (x : List Int) (l : List Strand) : Prop := (∀ i, i < l.length → StrandOk n a b (l.getD i default) (afterL l x i)) ∧ (∀ j, j < x.length → (afterL l x l.length).getD j default = 0) ∧ l.length ≤ n.links.length
theorem afterL_len (l : List Strand) (x : List Int) : ∀ i, (afterL l x i).length = x.length
  | 0 => rfl
  | i + 1 => by rw [afterL, subL_len, afterL_len l x i]
theorem after_room {n : Net} {a b : Int} {x : List Int} {l : List Strand} (hx : x.length = n.links.length) (hr : Room x) : ∀ i, (∀ j, j < i → StrandOk n a b (l.getD j default) (afterL l x j)) → Room (afterL l x i)
  | 0, _ => hr
  | i + 1, h => by
    have ih := after_room hx hr i fun j hj => h j (by omega)
    obtain ⟨h1, h2, h3⟩ := h i (by omega)
    rw [afterL]
    exact room_sub h1 ih _ fun j hj => ⟨h3 j hj, by rw [afterL_len]; have := h2.2.1 j hj; have p1 := this.1; have p2 := this.2.1; omega⟩
theorem rStrands_L0 {k : Nat} {n : Net} {a b : Int} {x : List Int} {l : List Strand} {s_ : List Int × Nat} (hs : s_.2 = x.length) (hx : x.length = n.links.length) (hr : Room x) (hl : l.length ≤ 40) (h40 : ∀ j, j < l.length → (l.getD j default).links.length ≤ 40) (hk : 100 < k) : ∀ (m i : Nat), i ≤ l.length → l.length - i < m → (∀ j, j < i → StrandOk n a b (l.getD j default) (afterL l x j)) →
    ((∀ j, j < l.length → StrandOk n a b (l.getD j default) (afterL l x j)) ∧ sr22_Strands_L0 k n a b l s_ m (i : Int) (afterL l x i) = some (.inr (afterL l x l.length))) ∨ ((¬ ∀ j, j < l.length → StrandOk n a b (l.getD j default) (afterL l x j)) ∧ sr22_Strands_L0 k n a b l s_ m (i : Int) (afterL l x i) = some (.inl false)) := by
  intro m
  induction m with
  | zero => intro i h1 h2; omega
  | succ m ih =>
    intro i h1 h2 h3
    rw [sr22_Strands_L0]
    by_cases c : (i : Int) < (l.length : Int)
    · have hi : i < l.length := by omega
      rw [if_pos c, if_pos ⟨by omega, c⟩, gx_nat l i, path_spec (h40 i hi) hk, Option.bind_some]
      by_cases q1 : PathOk n a b (l.getD i default).links
      · rw [if_pos (decide_eq_true q1), Option.bind_some]
        by_cases q2 : (l.getD i default).amount < 1
        · rw [if_pos (decide_eq_true q2), Option.bind_some, Sum.elim_inl]
          exact .inr ⟨fun h => by have := (h i hi).1; omega, rfl⟩
        · rw [if_neg (by simpa using q2)]
          rcases rStrands_L1 (k := k) (l := l) (s_ := s_) (c := i) (s := afterL l x i) (by rw [afterL_len, hs]) (after_room hx hr i h3) (by omega) (fun j hj => by have := q1.2.1 j hj; have p1 := this.1; have p2 := this.2.1; rw [afterL_len]; exact ⟨p1, by omega⟩) (h40 i hi) k 0 (by omega) (by have := h40 i hi; omega) (fun j hj => by omega) with ⟨g1, g⟩ | ⟨g1, g⟩
          · rw [show ((0 : Nat) : Int) = 0 from rfl, show subL (l.getD i default).links (l.getD i default).amount (afterL l x i) 0 = afterL l x i from rfl] at g
            rw [g, Option.bind_some, Sum.elim_inr, Option.bind_some, Sum.elim_inr, wr_succ i (by omega)]
            exact ih (i + 1) (by omega) (by omega) fun j hj => by rcases Nat.lt_succ_iff_lt_or_eq.1 hj with q | q; exact h3 j q; rw [q]; exact ⟨by omega, q1, g1⟩
          · rw [show ((0 : Nat) : Int) = 0 from rfl, show subL (l.getD i default).links (l.getD i default).amount (afterL l x i) 0 = afterL l x i from rfl] at g
            rw [g, Option.bind_some, Sum.elim_inl, Option.bind_some, Sum.elim_inl]
            exact .inr ⟨fun h => g1 (h i hi).2.2, rfl⟩
      · rw [if_neg (by simpa using q1), Option.bind_some, if_pos rfl, Option.bind_some, Sum.elim_inl]
        exact .inr ⟨fun h => q1 (h i hi).2.1, rfl⟩
    · rw [if_neg c]
      have : i = l.length := by omega
      subst this
      exact .inl ⟨h3, rfl⟩
theorem rStrands_L2 {k : Nat} {s_ : List Int × Nat} {s : List Int} (hs : s.length = s_.2) (hn : s.length < 1000) : ∀ (m i : Nat), i ≤ s.length → s.length - i < m → (∀ j, j < i → s.getD j default = 0) →
    ((∀ j, j < s.length → s.getD j default = 0) ∧ sr22_Strands_L2 k s_ s m (i : Int) = some (.inr ())) ∨ ((¬ ∀ j, j < s.length → s.getD j default = 0) ∧ sr22_Strands_L2 k s_ s m (i : Int) = some (.inl false)) := by
  intro m
  induction m with
  | zero => intro i h1 h2; omega
  | succ m ih =>
    intro i h1 h2 h3
    rw [sr22_Strands_L2]
    by_cases c : (i : Int) < (s_.2 : Int)
    · have hi : i < s.length := by omega
      rw [if_pos c, if_pos ⟨by omega, c⟩, Int.toNat_natCast, if_pos hi, wr_succ i (by omega)]
      by_cases q1 : s.getD i default ≠ 0
      · rw [if_pos q1]
        exact .inr ⟨fun h => q1 (h i hi), rfl⟩
      · rw [if_neg q1]
        exact ih (i + 1) (by omega) (by omega) fun j hj => by rcases Nat.lt_succ_iff_lt_or_eq.1 hj with q | q; exact h3 j q; rw [q]; exact Classical.byContradiction q1
    · rw [if_neg c]
      exact .inl ⟨fun j hj => h3 j (by omega), rfl⟩
theorem rStrands_spec {k : Nat} {n : Net} {a b : Int} {x : List Int} {l : List Strand} (hn : n.links.length ≤ 24) (hx : x.length = n.links.length) (hr : Room x) (hl : l.length ≤ 40) (h40 : ∀ j, j < l.length → (l.getD j default).links.length ≤ 40) (hk : 100 < k) : ∃ r, sr22_Strands k n a b x l = some r ∧ (r = true ↔ StrandsOk n a b x l) := by
  unfold sr22_Strands
  have e : ((if (0 + x.length) * 9 ≤ 1000000000 then (if x.length = 0 then some ([], 0) else some (x, x.length)) else none) : Option (List Int × Nat)) = some (x, x.length) := by
    rw [if_pos (by omega)]
    by_cases h : x.length = 0
    · rw [if_pos h, List.length_eq_zero_iff.1 h]; rfl
    · rw [if_neg h]
  rw [e, Option.bind_some]
  rcases rStrands_L0 (k := k) (n := n) (a := a) (b := b) (x := x) (l := l) (s_ := (x, x.length)) rfl hx hr hl h40 hk k 0 (by omega) (by omega) (fun j hj => by omega) with ⟨h1, h⟩ | ⟨h1, h⟩
  · rw [show ((0 : Nat) : Int) = 0 from rfl, show afterL l x 0 = x from rfl] at h
    rw [h, Option.bind_some, Sum.elim_inr]
    rcases rStrands_L2 (k := k) (s_ := (x, x.length)) (s := afterL l x l.length) (afterL_len l x _) (by rw [afterL_len]; omega) k 0 (by omega) (by rw [afterL_len]; omega) (fun j hj => by omega) with ⟨h2, g⟩ | ⟨h2, g⟩
    · rw [show ((0 : Nat) : Int) = 0 from rfl] at g
      rw [g, Option.bind_some, Sum.elim_inr]
      rw [afterL_len] at h2
      exact ⟨_, rfl, by rw [decide_eq_true_iff]; exact ⟨fun q => ⟨h1, h2, by omega⟩, fun q => by have := q.2.2; omega⟩⟩
    · rw [show ((0 : Nat) : Int) = 0 from rfl] at g
      rw [g, Option.bind_some, Sum.elim_inl]
      rw [afterL_len] at h2
      exact ⟨false, rfl, by simp only [Bool.false_eq_true, false_iff]; exact fun q => h2 q.2.1⟩
  · rw [show ((0 : Nat) : Int) = 0 from rfl, show afterL l x 0 = x from rfl] at h
    rw [h, Option.bind_some, Sum.elim_inl]
    exact ⟨false, rfl, by simp only [Bool.false_eq_true, false_iff]; exact fun q => h1 q.1⟩
end Go.Proofs.Ytfalnphlgfoflaa
