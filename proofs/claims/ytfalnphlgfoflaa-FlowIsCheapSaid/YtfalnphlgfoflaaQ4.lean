/- What the laws of flow ask of their network. -/
import Derived.Test.YtfalnphlgfoflaaQ3
namespace Go.Proofs.Ytfalnphlgfoflaa
open Go Go.RowKit
set_option linter.unusedSimpArgs false
set_option linter.unusedVariables false
theorem Name_L0 (k : Nat) (s : ByteArray) (hs : s.size < 9223372036854775808) : ∀ (m i : Nat), i ≤ s.size → s.size - i < m → ∃ r, sr08_Name_L0 k s m (i : Int) = some r := by
  intro m
  induction m with
  | zero => intro i h1 h2; omega
  | succ m ih =>
    intro i h1 h2
    rw [sr08_Name_L0]
    by_cases c : (i : Int) < (s.size : Int)
    · obtain ⟨r, hr⟩ := ih (i + 1) (by omega) (by omega)
      have g : (0 : Int) ≤ (i : Int) ∧ (i : Int) < (s.size : Int) := ⟨by omega, c⟩
      have A1 : ∃ b, (if (0 : Int) ≤ (i : Int) ∧ (i : Int) < (s.size : Int) then (if 97 ≤ ((bx s (i : Int)).toNat : Int) then some (decide (((bx s (i : Int)).toNat : Int) ≤ 122)) else some false) else none) = some b := by
        rw [if_pos g]; split <;> exact ⟨_, rfl⟩
      have A2 : ∃ b, (if (0 : Int) ≤ (i : Int) ∧ (i : Int) < (s.size : Int) then (if 48 ≤ ((bx s (i : Int)).toNat : Int) then (if ((bx s (i : Int)).toNat : Int) ≤ 57 then some true else some (decide (((bx s (i : Int)).toNat : Int) = 95))) else some (decide (((bx s (i : Int)).toNat : Int) = 95))) else none) = some b := by
        rw [if_pos g]; split
        · split <;> exact ⟨_, rfl⟩
        · exact ⟨_, rfl⟩
      obtain ⟨b1, h1⟩ := A1
      obtain ⟨b2, h2⟩ := A2
      rw [if_pos c, h1, h2, wr_succ i (by omega), hr]
      simp only [Option.bind_some]
      (repeat' split) <;> exact ⟨_, rfl⟩
    · rw [if_neg c]; exact ⟨_, rfl⟩
theorem Name_tot {k : Nat} (hk : 9223372036854775808 ≤ k) (s : ByteArray) (hs : s.size < 9223372036854775808) : ∃ r, sr08_Name k s = some r := by
  obtain ⟨r, h⟩ := Name_L0 k s hs k 0 (by omega) (by omega)
  rw [show ((0 : Nat) : Int) = 0 from rfl] at h
  unfold sr08_Name
  rw [h, Option.bind_some]
  cases r with
  | inl b => exact ⟨_, rfl⟩
  | inr u => simp only [Sum.elim_inr]; split <;> exact ⟨_, rfl⟩
theorem named_L1 (k : Nat) (l : List ByteArray) (e : Nat) (he : e < l.length) (hl : l.length < 9223372036854775808) : ∀ (m i : Nat), i ≤ e → e - i < m → ∃ r, sr09_named_L1 k l (e : Int) m (i : Int) = some r := by
  intro m
  induction m with
  | zero => intro i h1 h2; omega
  | succ m ih =>
    intro i h1 h2
    rw [sr09_named_L1]
    by_cases c : (i : Int) < (e : Int)
    · obtain ⟨r, hr⟩ := ih (i + 1) (by omega) (by omega)
      rw [if_pos c, if_pos ⟨by omega, by omega⟩, wr_succ i (by omega), hr]
      split <;> exact ⟨_, rfl⟩
    · rw [if_neg c]; exact ⟨_, rfl⟩
theorem named_L0 {k : Nat} (hk : 9223372036854775808 ≤ k) (l : List ByteArray) (hl : l.length < 9223372036854775808) (hs : ∀ s, s ∈ l → s.size < 9223372036854775808) : ∀ (m i : Nat), i ≤ l.length → l.length - i < m → ∃ r, sr09_named_L0 k l m (i : Int) = some r := by
  intro m
  induction m with
  | zero => intro i h1 h2; omega
  | succ m ih =>
    intro i h1 h2
    rw [sr09_named_L0]
    by_cases c : (i : Int) < (l.length : Int)
    · have hi : i < l.length := by omega
      obtain ⟨r, hr⟩ := ih (i + 1) (by omega) (by omega)
      obtain ⟨b, hb⟩ := Name_tot hk (l.getD i default) (hs _ (getD_mem hi))
      obtain ⟨r1, h1⟩ := named_L1 k l i hi hl k 0 (by omega) (by omega)
      rw [show ((0 : Nat) : Int) = 0 from rfl] at h1
      rw [if_pos c, if_pos ⟨by omega, c⟩, wr_succ i (by omega), gx_nat l i, hb, h1, hr]
      cases b with
      | false => exact ⟨_, rfl⟩
      | true => cases r1 <;> exact ⟨_, rfl⟩
    · rw [if_neg c]; exact ⟨_, rfl⟩
theorem named_tot {k : Nat} (hk : 9223372036854775808 ≤ k) (l : List ByteArray) (hl : l.length < 9223372036854775808) (hs : ∀ s, s ∈ l → s.size < 9223372036854775808) : ∃ r, sr09_named k l = some r := by
  obtain ⟨r, h⟩ := named_L0 hk l hl hs k 0 (by omega) (by omega)
  rw [show ((0 : Nat) : Int) = 0 from rfl] at h
  unfold sr09_named
  rw [h, Option.bind_some]
  cases r <;> exact ⟨_, rfl⟩
theorem Names_L0 (k : Nat) (n : Net) (hn : n.nodes.length ≤ 1000) (hs : ∀ x, x ∈ n.nodes → x.name.size < 9223372036854775808) : ∀ (m i : Nat) (l : List ByteArray), i ≤ n.nodes.length → n.nodes.length - i < m → l.length = i → (∀ s, s ∈ l → s.size < 9223372036854775808) →
    ∃ l', sr09_Names_L0 k n m (i : Int) l i = some (l', l'.length) ∧ l'.length = n.nodes.length ∧ ∀ s, s ∈ l' → s.size < 9223372036854775808 := by
  intro m
  induction m with
  | zero => intro i l h1 h2; omega
  | succ m ih =>
    intro i l h1 h2 h3 h4
    rw [sr09_Names_L0]
    by_cases c : (i : Int) < (n.nodes.length : Int)
    · have hi : i < n.nodes.length := by omega
      rw [if_pos c, if_pos ⟨by omega, c⟩, if_pos (by omega), wr_succ i (by omega), gx_nat n.nodes i]
      refine ih (i + 1) _ (by omega) (by omega) (by simp [h3]) fun s hm => ?_
      rcases List.mem_append.1 hm with q | q
      · exact h4 s q
      · simp only [List.mem_singleton] at q; subst q; exact hs _ (getD_mem hi)
    · rw [if_neg c]
      exact ⟨l, by rw [h3], by omega, h4⟩
theorem Names_L1 (k : Nat) (n : Net) (hn : n.edges.length ≤ 1000) (hs : ∀ x, x ∈ n.edges → x.name.size < 9223372036854775808) : ∀ (m i : Nat) (l : List ByteArray), i ≤ n.edges.length → n.edges.length - i < m → l.length = i → (∀ s, s ∈ l → s.size < 9223372036854775808) →
    ∃ l', sr09_Names_L1 k n m (i : Int) l i = some (l', l'.length) ∧ l'.length = n.edges.length ∧ ∀ s, s ∈ l' → s.size < 9223372036854775808 := by
  intro m
  induction m with
  | zero => intro i l h1 h2; omega
  | succ m ih =>
    intro i l h1 h2 h3 h4
    rw [sr09_Names_L1]
    by_cases c : (i : Int) < (n.edges.length : Int)
    · have hi : i < n.edges.length := by omega
      rw [if_pos c, if_pos ⟨by omega, c⟩, if_pos (by omega), wr_succ i (by omega), gx_nat n.edges i]
      refine ih (i + 1) _ (by omega) (by omega) (by simp [h3]) fun s hm => ?_
      rcases List.mem_append.1 hm with q | q
      · exact h4 s q
      · simp only [List.mem_singleton] at q; subst q; exact hs _ (getD_mem hi)
    · rw [if_neg c]
      exact ⟨l, by rw [h3], by omega, h4⟩
theorem isNode9_spec {k : Nat} {n : Net} (v : Int) : sr09_isNode k n v = some (decide (isNodeP n v)) := by
  unfold sr09_isNode isNodeP
  by_cases h : 0 ≤ v
  · rw [if_pos h]; simp [h]
  · rw [if_neg h]; simp [h]
theorem Chk_L0 (k : Nat) (n : Net) (hn : n.nodes.length ≤ 1000) : ∀ (m i : Nat), i ≤ n.nodes.length → n.nodes.length - i < m → ∃ r, sr09_Check_L0 k n m (i : Int) = some r ∧ (r = .inr () ∨ r = .inl 1) := by
  intro m
  induction m with
  | zero => intro i h1 h2; omega
  | succ m ih =>
    intro i h1 h2
    rw [sr09_Check_L0]
    by_cases c : (i : Int) < (n.nodes.length : Int)
    · obtain ⟨r, hr, hq⟩ := ih (i + 1) (by omega) (by omega)
      rw [if_pos c, if_pos ⟨by omega, c⟩, wr_succ i (by omega), hr]
      (repeat' split) <;> first | exact ⟨_, rfl, .inr rfl⟩ | exact ⟨_, rfl, hq⟩
    · rw [if_neg c]; exact ⟨_, rfl, .inl rfl⟩
def LinkOk (n : Net) (l : Link) : Prop := isNodeP n l.frm ∧ isNodeP n l.to ∧ l.frm ≠ l.to ∧ 0 ≤ l.cap ∧ l.cap ≤ 1048576
theorem Chk_L1 (k : Nat) (n : Net) (hn : n.links.length ≤ 10000) : ∀ (m i : Nat), i ≤ n.links.length → n.links.length - i < m → (∀ j, j < i → LinkOk n (n.links.getD j default)) → ∃ r, sr09_Check_L1 k n m (i : Int) = some r ∧ ((r = .inr () ∧ ∀ j, j < n.links.length → LinkOk n (n.links.getD j default)) ∨ r = .inl 1) := by
  intro m
  induction m with
  | zero => intro i h1 h2; omega
  | succ m ih =>
    intro i h1 h2 h3
    rw [sr09_Check_L1]
    by_cases c : (i : Int) < (n.links.length : Int)
    · have hi : i < n.links.length := by omega
      rw [if_pos c, if_pos ⟨by omega, c⟩, wr_succ i (by omega), gx_nat n.links i, isNode9_spec, isNode9_spec, Option.bind_some, Option.bind_some]
      by_cases q1 : isNodeP n (n.links.getD i default).frm
      · rw [if_pos (decide_eq_true q1)]
        by_cases q2 : isNodeP n (n.links.getD i default).to
        · rw [if_pos (decide_eq_true q2)]
          by_cases q3 : (n.links.getD i default).frm = (n.links.getD i default).to
          · rw [if_pos q3]; exact ⟨_, rfl, .inr rfl⟩
          · rw [if_neg q3]
            by_cases q4 : (n.links.getD i default).cap < 0
            · rw [if_pos q4]; exact ⟨_, rfl, .inr rfl⟩
            · rw [if_neg q4]
              by_cases q5 : 1048576 < (n.links.getD i default).cap
              · rw [if_pos q5]; exact ⟨_, rfl, .inr rfl⟩
              · rw [if_neg q5]
                exact ih (i + 1) (by omega) (by omega) fun j hj => by rcases Nat.lt_succ_iff_lt_or_eq.1 hj with q | q; exact h3 j q; rw [q]; exact ⟨q1, q2, q3, by omega, by omega⟩
        · rw [if_neg (by simpa using q2)]; exact ⟨_, rfl, .inr rfl⟩
      · rw [if_neg (by simpa using q1)]; exact ⟨_, rfl, .inr rfl⟩
    · rw [if_neg c]; exact ⟨_, rfl, .inl ⟨rfl, fun j hj => h3 j (by omega)⟩⟩
theorem Chk_L2 (k : Nat) (n : Net) (hn : n.edges.length ≤ 1000) : ∀ (m i : Nat), i ≤ n.edges.length → n.edges.length - i < m → ∃ r, sr09_Check_L2 k n m (i : Int) = some r ∧ (r = .inr () ∨ r = .inl 1) := by
  intro m
  induction m with
  | zero => intro i h1 h2; omega
  | succ m ih =>
    intro i h1 h2
    rw [sr09_Check_L2]
    by_cases c : (i : Int) < (n.edges.length : Int)
    · obtain ⟨r, hr, hq⟩ := ih (i + 1) (by omega) (by omega)
      rw [if_pos c, if_pos ⟨by omega, c⟩, wr_succ i (by omega), hr, isNode9_spec, Option.bind_some]
      split
      · exact ⟨_, rfl, hq⟩
      · exact ⟨_, rfl, .inr rfl⟩
    · rw [if_neg c]; exact ⟨_, rfl, .inl rfl⟩
structure Held (n : Net) : Prop where
  nodes : ∀ x, x ∈ n.nodes → x.name.size < 9223372036854775808
  edges : ∀ x, x ∈ n.edges → x.name.size < 9223372036854775808
theorem Chk_spec {k : Nat} (hk : 9223372036854775808 ≤ k) (n : Net) (h1 : n.nodes.length ≤ 10) (h2 : n.links.length ≤ 24) (h3 : n.edges.length ≤ 20) (hh : Held n) : ∃ r, sr09_Check k n = some r ∧ (r = 0 → RightNet n) := by
  unfold sr09_Check
  rw [if_neg (by omega), if_neg (by omega), Option.bind_some, if_neg (by simp only [decide_eq_true_eq]; omega)]
  obtain ⟨l1, a1, a2, a3⟩ := Names_L0 k n (by omega) hh.nodes k 0 [] (by omega) (by omega) rfl (fun s hs => by simp at hs)
  obtain ⟨l2, b1, b2, b3⟩ := Names_L1 k n (by omega) hh.edges k 0 [] (by omega) (by omega) rfl (fun s hs => by simp at hs)
  obtain ⟨r1, c1⟩ := named_tot hk l1 (by omega) a3
  obtain ⟨r2, c2⟩ := named_tot hk l2 (by omega) b3
  obtain ⟨d1, e1, g1⟩ := Chk_L0 k n (by omega) k 0 (by omega) (by omega)
  obtain ⟨d2, e2, g2⟩ := Chk_L1 k n (by omega) k 0 (by omega) (by omega) (fun j hj => by omega)
  obtain ⟨d3, e3, g3⟩ := Chk_L2 k n (by omega) k 0 (by omega) (by omega)
  rw [show ((0 : Nat) : Int) = 0 from rfl] at a1 b1 e1 e2 e3
  have hN : sr09_Names k n = some (l1, l2) := by
    unfold sr09_Names
    rw [a1, b1]
    simp
  rw [hN, Option.bind_some]
  simp only [c1, c2, Option.bind_some, e1, e2, e3]
  cases r1 with
  | false => exact ⟨4, rfl, fun h => by simp at h⟩
  | true =>
    cases r2 with
    | false => exact ⟨4, rfl, fun h => by simp at h⟩
    | true =>
      rcases g1 with rfl | rfl
      · rcases g2 with ⟨rfl, hall⟩ | rfl
        · have hR : RightNet n := ⟨h1, h2, fun j hj => (hall j hj).1, fun j hj => (hall j hj).2.1, fun j hj => (hall j hj).2.2.1, fun j hj => (hall j hj).2.2.2⟩
          rcases g3 with rfl | rfl
          · exact ⟨0, rfl, fun _ => hR⟩
          · exact ⟨1, rfl, fun h => by simp at h⟩
        · exact ⟨1, rfl, fun h => by simp at h⟩
      · exact ⟨1, rfl, fun h => by simp at h⟩
theorem ChkF_L0 (k : Nat) (n : Net) (f : Failure) (hl : f.links.length < 9223372036854775808) : ∀ (m i : Nat), i ≤ f.links.length → f.links.length - i < m → (∀ j, j < i → (j : Int) ≤ f.links.getD j default ∧ f.links.getD j default < (n.links.length : Int)) → ∃ r, sr09_CheckFailure_L0 k n f m (i : Int) = some r ∧ ((r = .inr () ∧ f.links.length ≤ n.links.length) ∨ r = .inl 1) := by
  intro m
  induction m with
  | zero => intro i h1 h2; omega
  | succ m ih =>
    intro i h1 h2 h3
    rw [sr09_CheckFailure_L0]
    by_cases c : (i : Int) < (f.links.length : Int)
    · have hi : i < f.links.length := by omega
      rw [if_pos c, if_pos ⟨by omega, c⟩, wr_succ i (by omega), gx_nat f.links i]
      have next : (i : Int) ≤ f.links.getD i default → f.links.getD i default < (n.links.length : Int) → _ := fun q q' => ih (i + 1) (by omega) (by omega) fun j hj => by rcases Nat.lt_succ_iff_lt_or_eq.1 hj with p | p; exact h3 j p; rw [p]; exact ⟨q, q'⟩
      by_cases q1 : f.links.getD i default < 0
      · rw [if_pos q1]; exact ⟨_, rfl, .inr rfl⟩
      · rw [if_neg q1]
        by_cases q2 : (n.links.length : Int) ≤ f.links.getD i default
        · rw [if_pos q2]; exact ⟨_, rfl, .inr rfl⟩
        · rw [if_neg q2]
          by_cases q3 : 0 < (i : Int)
          · have e1 : IntKind.i64.wrap ((i : Int) - 1) = ((i - 1 : Nat) : Int) := by rw [wr64 (by omega)]; omega
            rw [if_pos q3, e1, if_pos ⟨by omega, by omega⟩, gx_nat f.links (i - 1)]
            by_cases q4 : f.links.getD i default ≤ f.links.getD (i - 1) default
            · rw [if_pos q4]; exact ⟨_, rfl, .inr rfl⟩
            · rw [if_neg q4]
              have := h3 (i - 1) (by omega)
              exact next (by omega) (by omega)
          · rw [if_neg q3]
            exact next (by omega) (by omega)
    · rw [if_neg c]
      refine ⟨_, rfl, .inl ⟨rfl, ?_⟩⟩
      by_cases h0 : f.links.length = 0
      · omega
      · have := h3 (f.links.length - 1) (by omega)
        omega
theorem ChkF_spec {k : Nat} (hk : 9223372036854775808 ≤ k) (n : Net) (f : Failure) (hl : f.links.length < 9223372036854775808) : ∃ r, sr09_CheckFailure k n f = some r ∧ (r = 0 → f.links.length ≤ n.links.length) := by
  unfold sr09_CheckFailure
  obtain ⟨r, h1, h2⟩ := ChkF_L0 k n f hl k 0 (by omega) (by omega) (fun j hj => by omega)
  rw [show ((0 : Nat) : Int) = 0 from rfl] at h1
  rw [h1, Option.bind_some, isNode9_spec, Option.bind_some]
  rcases h2 with ⟨rfl, h2⟩ | rfl
  · simp only [Sum.elim_inr]
    (repeat' split) <;> exact ⟨_, rfl, fun _ => h2⟩
  · exact ⟨1, rfl, fun h => by simp at h⟩
structure RightR (n : Net) (f : Failure) (a b : Int) : Prop where
  net : RightNet n
  fail : f.links.length ≤ 24
  ha : 0 ≤ a ∧ a < (n.nodes.length : Int)
  hb : 0 ≤ b ∧ b < (n.nodes.length : Int)
theorem right_spec {k : Nat} (hk : 9223372036854775808 ≤ k) (n : Net) (f : Failure) (a b : Int) (hl : f.links.length < 9223372036854775808) (hh : Held n) : ∃ r, sl_right k n f a b = some r ∧ (r = true → RightR n f a b) := by
  unfold sl_right sr09_Few
  by_cases q1 : (n.nodes.length : Int) ≤ 10
  · rw [if_pos q1]
    by_cases q2 : (n.links.length : Int) ≤ 24
    · rw [if_pos q2, Option.bind_some]
      by_cases q3 : (n.edges.length : Int) ≤ 20
      · rw [if_pos (decide_eq_true q3)]
        obtain ⟨r1, h1, h2⟩ := Chk_spec hk n (by omega) (by omega) (by omega) hh
        obtain ⟨r2, h3, h4⟩ := ChkF_spec hk n f hl
        rw [h1, Option.bind_some, h3, Option.bind_some]
        by_cases q4 : r1 = 0
        · rw [if_pos q4]
          by_cases q5 : r2 = 0
          · rw [if_pos q5]
            by_cases q6 : 0 ≤ a
            · rw [if_pos q6]
              by_cases q7 : a < (n.nodes.length : Int)
              · rw [if_pos q7]
                by_cases q8 : 0 ≤ b
                · rw [if_pos q8]
                  exact ⟨_, rfl, fun h => ⟨h2 q4, by have := h4 q5; omega, ⟨q6, q7⟩, ⟨q8, of_decide_eq_true h⟩⟩⟩
                · rw [if_neg q8]; exact ⟨_, rfl, fun h => by simp at h⟩
              · rw [if_neg q7]; exact ⟨_, rfl, fun h => by simp at h⟩
            · rw [if_neg q6]; exact ⟨_, rfl, fun h => by simp at h⟩
          · rw [if_neg q5]; exact ⟨_, rfl, fun h => by simp at h⟩
        · rw [if_neg q4]; exact ⟨_, rfl, fun h => by simp at h⟩
      · rw [if_neg (by simpa using q3)]; exact ⟨_, rfl, fun h => by simp at h⟩
    · rw [if_neg q2]; exact ⟨_, rfl, fun h => by simp at h⟩
  · rw [if_neg q1]; exact ⟨_, rfl, fun h => by simp at h⟩
end Go.Proofs.Ytfalnphlgfoflaa
