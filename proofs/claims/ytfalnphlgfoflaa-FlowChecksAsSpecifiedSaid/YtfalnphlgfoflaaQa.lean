/- Strands: the program's function. -/
import Derived.Test.YtfalnphlgfoflaaQ9
import Derived.Test.YtfalnphlgfoflaaSD
namespace Go.Proofs.Ytfalnphlgfoflaa
open Go Go.RowKit
set_option linter.unusedSimpArgs false
set_option linter.unusedVariables false
theorem mget_mset (v k : Int) : ∀ mp : List (Int × Bool), (mget v (mset k true mp)).getD false = if v = k then true else (mget v mp).getD false
  | [] => by
    show (mget v [(k, true)]).getD false = _
    unfold mget
    by_cases h : v = k
    · rw [if_pos h, if_pos h]; rfl
    · rw [if_neg h, if_neg h]; simp [mget]
  | p :: l => by
    unfold mset
    by_cases hk : k = p.1
    · rw [if_pos hk]
      unfold mget
      by_cases h : v = k
      · rw [if_pos h, if_pos h]; rfl
      · rw [if_neg h, if_neg h, if_neg (by rw [← hk]; exact h)]
    · rw [if_neg hk]
      unfold mget
      by_cases h : v = p.1
      · rw [if_pos h, if_pos h, if_neg (by rw [h]; exact fun e => hk e.symm)]
      · rw [if_neg h, if_neg h]; exact mget_mset v k l
theorem fStrands_L1 {k : Nat} {n : Net} {x : List Int} {l : List Strand} {c : Nat} {s : List Int} (hs : s.length = x.length) (hx : x.length = n.links.length) (hr : Room s) (ha : 1 ≤ (l.getD c default).amount) (hl : (l.getD c default).links.length ≤ 40) : ∀ (m i : Nat) (mp : List (Int × Bool)), i ≤ (l.getD c default).links.length → (l.getD c default).links.length - i < m → (∀ v, (mget v mp).getD false = decide (v ∈ seenL n (l.getD c default).links i)) → (∀ j, j < i → PathK n (l.getD c default).links j ∧ EnoughK (l.getD c default).links (l.getD c default).amount s j) →
    ((∀ j, j < (l.getD c default).links.length → PathK n (l.getD c default).links j ∧ EnoughK (l.getD c default).links (l.getD c default).amount s j) ∧ ∃ mp', (∀ v, (mget v mp').getD false = decide (v ∈ seenL n (l.getD c default).links (l.getD c default).links.length)) ∧ sflow_Strands_L1 k n x l (c : Int) m (i : Int) (subL (l.getD c default).links (l.getD c default).amount s i) mp = some (.inr (subL (l.getD c default).links (l.getD c default).amount s (l.getD c default).links.length, mp'))) ∨ ((¬ ∀ j, j < (l.getD c default).links.length → PathK n (l.getD c default).links j ∧ EnoughK (l.getD c default).links (l.getD c default).amount s j) ∧ sflow_Strands_L1 k n x l (c : Int) m (i : Int) (subL (l.getD c default).links (l.getD c default).amount s i) mp = some (.inl false)) := by
  intro m
  induction m with
  | zero => intro i mp h1 h2; omega
  | succ m ih =>
    intro i mp h1 h2 hm h3
    rw [sflow_Strands_L1, gx_nat l c]
    generalize hL : (l.getD c default).links = ls at *
    generalize hA : (l.getD c default).amount = amt at *
    by_cases q : (i : Int) < (ls.length : Int)
    · have hi : i < ls.length := by omega
      rw [if_pos q, if_pos ⟨by omega, q⟩, gx_nat ls i]
      have e1 : (gx n.links (ls.getD i default)).frm = frmK n ls i := rfl
      rw [e1, hm]
      by_cases q1 : ls.getD i default < 0
      · rw [if_pos q1, Option.bind_some, if_pos rfl]
        exact .inr ⟨fun h => by have := (h i hi).1.1; omega, rfl⟩
      · rw [if_neg q1]
        by_cases q2 : (n.links.length : Int) ≤ ls.getD i default
        · rw [if_pos q2, Option.bind_some, if_pos rfl]
          exact .inr ⟨fun h => by have := (h i hi).1.2.1; omega, rfl⟩
        · rw [if_neg q2, if_pos ⟨by omega, by omega⟩]
          by_cases q3 : frmK n ls i ∈ seenL n ls i
          · rw [if_pos (decide_eq_true q3), Option.bind_some, if_pos rfl]
            exact .inr ⟨fun h => (h i hi).1.2.2.1 q3, rfl⟩
          · rw [if_neg (by simpa using q3), if_pos (show (0 : Int) ≤ ls.getD i default ∧ ls.getD i default < (x.length : Int) from ⟨by omega, by omega⟩), if_pos (show (ls.getD i default).toNat < (subL ls amt s i).length by rw [subL_len]; omega)]
            have rr := room_sub (l := ls) ha hr i (fun j hj => ⟨(h3 j hj).2, by have p := (h3 j hj).1; have p1 := p.1; have p2 := p.2.1; omega⟩) (ls.getD i default).toNat (by rw [subL_len]; omega)
            have fin : (0 < i → toK n ls (i - 1) = frmK n ls i) → _ := fun hto => (show
              ((∀ j, j < ls.length → PathK n ls j ∧ EnoughK ls amt s j) ∧ ∃ mp', (∀ v, (mget v mp').getD false = decide (v ∈ seenL n ls ls.length)) ∧ ((some (decide ((subL ls amt s i).getD (ls.getD i default).toNat default < amt)) : Option Bool).bind fun s_5 => if s_5 = true then some (.inl false) else (if (0 : Int) ≤ ls.getD i default ∧ ls.getD i default < (n.links.length : Int) then (if (0 : Int) ≤ ls.getD i default ∧ ls.getD i default < (x.length : Int) then (if (ls.getD i default).toNat < (subL ls amt s i).length then sflow_Strands_L1 k n x l (c : Int) m (IntKind.i64.wrap ((i : Int) + 1)) ((subL ls amt s i).set (ls.getD i default).toNat (IntKind.i64.wrap ((subL ls amt s i).getD (ls.getD i default).toNat default - amt))) (mset (frmK n ls i) true mp) else none) else none) else none)) = some (.inr (subL ls amt s ls.length, mp'))) ∨ ((¬ ∀ j, j < ls.length → PathK n ls j ∧ EnoughK ls amt s j) ∧ ((some (decide ((subL ls amt s i).getD (ls.getD i default).toNat default < amt)) : Option Bool).bind fun s_5 => if s_5 = true then some (.inl false) else (if (0 : Int) ≤ ls.getD i default ∧ ls.getD i default < (n.links.length : Int) then (if (0 : Int) ≤ ls.getD i default ∧ ls.getD i default < (x.length : Int) then (if (ls.getD i default).toNat < (subL ls amt s i).length then sflow_Strands_L1 k n x l (c : Int) m (IntKind.i64.wrap ((i : Int) + 1)) ((subL ls amt s i).set (ls.getD i default).toNat (IntKind.i64.wrap ((subL ls amt s i).getD (ls.getD i default).toNat default - amt))) (mset (frmK n ls i) true mp) else none) else none) else none)) = some (.inl false)) from by
              rw [Option.bind_some]
              by_cases q5 : (subL ls amt s i).getD (ls.getD i default).toNat default < amt
              · rw [if_pos (decide_eq_true q5)]
                exact .inr ⟨fun h => by have := (h i hi).2; unfold EnoughK at this; omega, rfl⟩
              · rw [if_neg (by simpa using q5), if_pos ⟨by omega, by omega⟩, if_pos ⟨by omega, by omega⟩, if_pos (by rw [subL_len]; omega), wr_succ i (by omega), wr64 (by omega)]
                refine ih (i + 1) _ (by omega) (by omega) (fun v => ?_) fun j hj => ?_
                · rw [mget_mset, hm, seenL_succ]
                  by_cases e : v = frmK n ls i
                  · rw [if_pos e]; simp [e]
                  · rw [if_neg e]; simp [e]
                · rcases Nat.lt_succ_iff_lt_or_eq.1 hj with q | q
                  · exact h3 j q
                  · rw [q]; exact ⟨⟨by omega, by omega, q3, hto⟩, by unfold EnoughK; omega⟩)
            by_cases q4 : (0 : Int) < (i : Int)
            · have e2 : IntKind.i64.wrap ((i : Int) - 1) = ((i - 1 : Nat) : Int) := by rw [wr64 (by omega)]; omega
              have e3 : (gx n.links (ls.getD (i - 1) default)).to = toK n ls (i - 1) := rfl
              have p := (h3 (i - 1) (by omega)).1
              rw [if_pos q4, e2, if_pos ⟨by omega, by omega⟩, gx_nat ls (i - 1), if_pos ⟨p.1, p.2.1⟩, e3]
              by_cases q5 : toK n ls (i - 1) = frmK n ls i
              · rw [if_neg (by simpa using q5)]
                exact fin fun _ => q5
              · rw [if_pos q5, Option.bind_some, if_pos rfl]
                exact .inr ⟨fun h => q5 ((h i hi).1.2.2.2 (by omega)), rfl⟩
            · rw [if_neg q4]
              exact fin fun h => by omega
    · rw [if_neg q]
      have : i = ls.length := by omega
      subst this
      exact .inl ⟨h3, mp, hm, rfl⟩
end Go.Proofs.Ytfalnphlgfoflaa
