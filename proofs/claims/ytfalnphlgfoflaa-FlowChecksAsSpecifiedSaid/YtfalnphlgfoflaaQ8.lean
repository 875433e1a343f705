/- Strands: what the document's function gives. -/
import Derived.Test.YtfalnphlgfoflaaQ7
namespace Go.Proofs.Ytfalnphlgfoflaa
open Go Go.RowKit
set_option linter.unusedSimpArgs false
set_option linter.unusedVariables false
def frmK (n : Net) (l : List Int) (k : Nat) : Int := (lnk n (l.getD k default)).frm
def toK (n : Net) (l : List Int) (k : Nat) : Int := (lnk n (l.getD k default)).to
def seenL (n : Net) (l : List Int) (k : Nat) : List Int := (List.range k).map (frmK n l)
theorem seenL_succ (n : Net) (l : List Int) (k : Nat) : seenL n l (k + 1) = seenL n l k ++ [frmK n l k] := by simp [seenL, List.range_succ]
theorem seenL_len (n : Net) (l : List Int) (k : Nat) : (seenL n l k).length = k := by simp [seenL]
def PathK (n : Net) (l : List Int) (k : Nat) : Prop := 0 ≤ l.getD k default ∧ l.getD k default < (n.links.length : Int) ∧ frmK n l k ∉ seenL n l k ∧ (0 < k → toK n l (k - 1) = frmK n l k)
def EndOk (n : Net) (a b : Int) (l : List Int) : Prop := frmK n l 0 = toK n l (l.length - 1) ∨ (frmK n l 0 = a ∧ toK n l (l.length - 1) = b ∧ toK n l (l.length - 1) ∉ seenL n l l.length)
def PathOk (n : Net) (a b : Int) (l : List Int) : Prop := 0 < l.length ∧ (∀ k, k < l.length → PathK n l k) ∧ EndOk n a b l
noncomputable instance (n : Net) (a b : Int) (l : List Int) : Decidable (PathOk n a b l) := Classical.propDecidable _
theorem path_L0 {k : Nat} {n : Net} {l : List Int} (hl : l.length ≤ 40) (hk : 100 < k) : ∀ (m i : Nat), i ≤ l.length → l.length - i < m → (∀ j, j < i → PathK n l j) →
    ((∀ j, j < l.length → PathK n l j) ∧ sr22_path_L0 k n l m (i : Int) (seenL n l i) i = some (.inr (seenL n l l.length, l.length))) ∨ ((¬ ∀ j, j < l.length → PathK n l j) ∧ sr22_path_L0 k n l m (i : Int) (seenL n l i) i = some (.inl false)) := by
  intro m
  induction m with
  | zero => intro i h1 h2; omega
  | succ m ih =>
    intro i h1 h2 h3
    rw [sr22_path_L0]
    by_cases c : (i : Int) < (l.length : Int)
    · have hi : i < l.length := by omega
      have next : PathK n l i → _ := fun h => ih (i + 1) (by omega) (by omega) fun j hj => by rcases Nat.lt_succ_iff_lt_or_eq.1 hj with q | q; exact h3 j q; rw [q]; exact h
      rw [if_pos c, if_pos ⟨by omega, c⟩, gx_nat l i]
      by_cases q1 : l.getD i default < 0
      · rw [if_pos q1, Option.bind_some, if_pos rfl]
        exact .inr ⟨fun h => by have := (h i hi).1; omega, rfl⟩
      · rw [if_neg q1, Option.bind_some]
        by_cases q2 : (n.links.length : Int) ≤ l.getD i default
        · rw [if_pos (decide_eq_true q2)]
          exact .inr ⟨fun h => by have := (h i hi).2.1; omega, rfl⟩
        · rw [if_neg (by simpa using q2), if_pos ⟨by omega, c⟩, if_pos ⟨by omega, by omega⟩, if_pos (seenL_len n l i)]
          have e1 : (gx n.links (l.getD i default)).frm = frmK n l i := rfl
          rw [e1, rhas_spec _ (by rw [seenL_len]; omega) (by rw [seenL_len]; omega), Option.bind_some]
          by_cases q3 : frmK n l i ∈ seenL n l i
          · rw [if_pos (decide_eq_true q3), Option.bind_some, if_pos rfl]
            exact .inr ⟨fun h => (h i hi).2.2.1 q3, rfl⟩
          · rw [if_neg (by simpa using q3)]
            by_cases q4 : (0 : Int) < (i : Int)
            · have e2 : IntKind.i64.wrap ((i : Int) - 1) = ((i - 1 : Nat) : Int) := by rw [wr64 (by omega)]; omega
              have e3 : (gx n.links (l.getD (i - 1) default)).to = toK n l (i - 1) := rfl
              have p := h3 (i - 1) (by omega)
              rw [if_pos q4, e2, if_pos ⟨by omega, by omega⟩, gx_nat l (i - 1), if_pos ⟨p.1, p.2.1⟩, Option.bind_some, e3]
              by_cases q5 : toK n l (i - 1) = frmK n l i
              · rw [if_neg (by simpa using q5), if_pos (by omega), wr_succ i (by omega), ← seenL_succ]
                exact next ⟨by omega, by omega, q3, fun _ => q5⟩
              · rw [if_pos (by simpa using q5)]
                exact .inr ⟨fun h => q5 ((h i hi).2.2.2 (by omega)), rfl⟩
            · rw [if_neg q4, Option.bind_some, if_neg (by simp), if_pos (by omega), wr_succ i (by omega), ← seenL_succ]
              exact next ⟨by omega, by omega, q3, fun h => by omega⟩
    · rw [if_neg c]
      have : i = l.length := by omega
      subst this
      exact .inl ⟨h3, rfl⟩
theorem path_spec {k : Nat} {n : Net} {a b : Int} {l : List Int} (hl : l.length ≤ 40) (hk : 100 < k) : sr22_path k n a b l = some (decide (PathOk n a b l)) := by
  unfold sr22_path
  rcases path_L0 (n := n) hl hk k 0 (by omega) (by omega) (fun j hj => by omega) with ⟨h1, h⟩ | ⟨h1, h⟩
  · rw [show ((0 : Nat) : Int) = 0 from rfl, show seenL n l 0 = [] from rfl] at h
    rw [h, Option.bind_some, Sum.elim_inr]
    by_cases c : l.length = 0
    · rw [if_pos (by omega)]
      simp only [Option.some.injEq]; exact (decide_eq_false fun hh => by have := hh.1; omega).symm
    · have e : IntKind.i64.wrap ((l.length : Int) - 1) = ((l.length - 1 : Nat) : Int) := by rw [wr64 (by omega)]; omega
      have p0 := h1 0 (by omega)
      have p1 := h1 (l.length - 1) (by omega)
      have g0 : gx l 0 = l.getD 0 default := rfl
      rw [if_neg (by omega), if_pos ⟨by omega, by omega⟩, e, gx_nat l (l.length - 1), g0, if_pos ⟨p0.1, p0.2.1⟩, if_pos ⟨by omega, by omega⟩, if_pos ⟨p1.1, p1.2.1⟩, if_pos (seenL_len n l l.length), rhas_spec _ (by rw [seenL_len]; omega) (by rw [seenL_len]; omega), Option.bind_some]
      have e1 : (gx n.links (l.getD 0 default)).frm = frmK n l 0 := rfl
      have e2 : (gx n.links (l.getD (l.length - 1) default)).to = toK n l (l.length - 1) := rfl
      rw [e1, e2]
      have key : PathOk n a b l ↔ EndOk n a b l := ⟨fun h => h.2.2, fun h => ⟨by omega, h1, h⟩⟩
      have fin : ∀ r : Bool, (r = true ↔ EndOk n a b l) → some r = some (decide (PathOk n a b l)) := fun r hr => by
        congr 1; rw [Bool.eq_iff_iff, hr, decide_eq_true_iff, key]
      unfold EndOk at fin
      by_cases q1 : frmK n l 0 = a
      · rw [if_pos q1]
        by_cases q2 : toK n l (l.length - 1) = b
        · rw [if_pos q2]
          by_cases q3 : toK n l (l.length - 1) ∈ seenL n l l.length
          · rw [if_pos (decide_eq_true q3)]
            exact fin _ (by rw [decide_eq_true_iff]; exact ⟨.inl, fun h => h.elim id fun h => absurd q3 h.2.2⟩)
          · rw [if_neg (by simpa using q3)]
            exact fin _ ⟨fun _ => .inr ⟨q1, q2, q3⟩, fun _ => rfl⟩
        · rw [if_neg q2]
          exact fin _ (by rw [decide_eq_true_iff]; exact ⟨.inl, fun h => h.elim id fun h => absurd h.2.1 q2⟩)
      · rw [if_neg q1]
        exact fin _ (by rw [decide_eq_true_iff]; exact ⟨.inl, fun h => h.elim id fun h => absurd h.1 q1⟩)
  · rw [show ((0 : Nat) : Int) = 0 from rfl, show seenL n l 0 = [] from rfl] at h
    rw [h, Option.bind_some, Sum.elim_inl]
    simp only [Option.some.injEq]; exact (decide_eq_false fun hh => h1 hh.2.1).symm
def subL (l : List Int) (amt : Int) (s : List Int) : Nat → List Int
  | 0 => s
  | i + 1 => (subL l amt s i).set (l.getD i default).toNat ((subL l amt s i).getD (l.getD i default).toNat default - amt)
theorem subL_len (l : List Int) (amt : Int) (s : List Int) : ∀ i, (subL l amt s i).length = s.length
  | 0 => rfl
  | i + 1 => by rw [subL, List.length_set, subL_len l amt s i]
def EnoughK (l : List Int) (amt : Int) (s : List Int) (i : Nat) : Prop := amt ≤ (subL l amt s i).getD (l.getD i default).toNat default
def Room (s : List Int) : Prop := ∀ j, j < s.length → 0 ≤ s.getD j default ∧ s.getD j default ≤ 1048576
theorem getD_set_eq {s : List Int} {i : Nat} {v : Int} (h : i < s.length) : (s.set i v).getD i default = v := by
  rw [List.getD_eq_getElem?_getD, List.getElem?_set_self h]; rfl
theorem room_sub {l : List Int} {amt : Int} {s : List Int} (ha : 1 ≤ amt) (hr : Room s) : ∀ i, (∀ j, j < i → EnoughK l amt s j ∧ (l.getD j default).toNat < s.length) → Room (subL l amt s i)
  | 0, _ => hr
  | i + 1, h => by
    have ih := room_sub (l := l) ha hr i fun j hj => h j (by omega)
    obtain ⟨h1, h2⟩ := h i (by omega)
    unfold EnoughK at h1
    have r := ih (l.getD i default).toNat (by rw [subL_len]; exact h2)
    intro j hj
    rw [subL] at hj ⊢
    by_cases c : (l.getD i default).toNat = j
    · rw [← c, getD_set_eq (by rw [subL_len]; exact h2)]; omega
    · rw [getD_set_ne c]; exact ih j (by rw [List.length_set] at hj; exact hj)
theorem rStrands_L1 {k : Nat} {l : List Strand} {s_ : List Int × Nat} {c : Nat} {s : List Int} (hs : s.length = s_.2) (hr : Room s) (ha : 1 ≤ (l.getD c default).amount) (hb : ∀ j, j < (l.getD c default).links.length → 0 ≤ (l.getD c default).links.getD j default ∧ (l.getD c default).links.getD j default < (s.length : Int)) (hl : (l.getD c default).links.length ≤ 40) : ∀ (m i : Nat), i ≤ (l.getD c default).links.length → (l.getD c default).links.length - i < m → (∀ j, j < i → EnoughK (l.getD c default).links (l.getD c default).amount s j) →
    ((∀ j, j < (l.getD c default).links.length → EnoughK (l.getD c default).links (l.getD c default).amount s j) ∧ sr22_Strands_L1 k l s_ (c : Int) m (i : Int) (subL (l.getD c default).links (l.getD c default).amount s i) = some (.inr (subL (l.getD c default).links (l.getD c default).amount s (l.getD c default).links.length))) ∨ ((¬ ∀ j, j < (l.getD c default).links.length → EnoughK (l.getD c default).links (l.getD c default).amount s j) ∧ sr22_Strands_L1 k l s_ (c : Int) m (i : Int) (subL (l.getD c default).links (l.getD c default).amount s i) = some (.inl false)) := by
  intro m
  induction m with
  | zero => intro i h1 h2; omega
  | succ m ih =>
    intro i h1 h2 h3
    rw [sr22_Strands_L1, gx_nat l c]
    by_cases q : (i : Int) < ((l.getD c default).links.length : Int)
    · have hi : i < (l.getD c default).links.length := by omega
      have b := hb i hi
      rw [if_pos q, if_pos ⟨by omega, q⟩, gx_nat (l.getD c default).links i, if_pos ⟨b.1, by omega⟩, if_pos (by rw [subL_len]; omega)]
      have rr := room_sub (l := (l.getD c default).links) ha hr i (fun j hj => ⟨h3 j hj, by have := hb j (by omega); omega⟩) ((l.getD c default).links.getD i default).toNat (by rw [subL_len]; omega)
      by_cases q1 : (subL (l.getD c default).links (l.getD c default).amount s i).getD ((l.getD c default).links.getD i default).toNat default < (l.getD c default).amount
      · rw [if_pos q1]
        exact .inr ⟨fun h => by have := h i hi; unfold EnoughK at this; omega, rfl⟩
      · rw [if_neg q1, wr_succ i (by omega), wr64 (by omega)]
        exact ih (i + 1) (by omega) (by omega) fun j hj => by rcases Nat.lt_succ_iff_lt_or_eq.1 hj with q | q; exact h3 j q; rw [q]; unfold EnoughK; omega
    · rw [if_neg q]
      have : i = (l.getD c default).links.length := by omega
      subst this
      exact .inl ⟨h3, rfl⟩
end Go.Proofs.Ytfalnphlgfoflaa
