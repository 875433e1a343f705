/- Strands: the program's function. -/
import Derived.Test.YtfalnphlgfoflaaQw
import Derived.Test.YtfalnphlgfoflaaSD
set_option linter.unusedSimpArgs false
set_option linter.unusedVariables false
set_option linter.unusedSectionVars false
namespace Go.Proofs.Ytfalnphlgfoflaa
open Go Go.RowKit
set_option linter.unusedSimpArgs false
set_option linter.unusedVariables false
theorem mget_mset (v k : Int) : ∀ mp : List (Int × Bool), (mget v (mset k true mp)).getD false = if v = k then true else (mget v mp).getD false
  | [] => by
    show (mget v [(k, true)]).getD false = _
    unfold mget
    by_cases h : v = k
    · rw [if_pos h, if_pos h]; rfl
    · rw [if_neg h, if_neg h]; simp [mget]
  | p :: l => by
    unfold mset
    by_cases hk : k = p.1
    · rw [if_pos hk]
      unfold mget
      by_cases h : v = k
      · rw [if_pos h, if_pos h]; rfl
      · rw [if_neg h, if_neg h, if_neg (by rw [← hk]; exact h)]
    · rw [if_neg hk]
      unfold mget
      by_cases h : v = p.1
      · rw [if_pos h, if_pos h, if_neg (by rw [h]; exact fun e => hk e.symm)]
      · rw [if_neg h, if_neg h]; exact mget_mset v k l
theorem fStrands_L1 {k : Nat} {n : Net} {x : List Int} {l : List Strand} {c : Nat} {s : List Int} (hs : s.length = x.length) (hx : x.length = n.links.length) (hr : Room s) (ha : 1 ≤ (l.getD c default).amount) (hl : (l.getD c default).links.length ≤ 40) : ∀ (m i : Nat) (mp : List (Int × Bool)), i ≤ (l.getD c default).links.length → (l.getD c default).links.length - i < m → (∀ v, (mget v mp).getD false = decide (v ∈ seenL n (l.getD c default).links i)) → (∀ j, j < i → PathK n (l.getD c default).links j ∧ EnoughK (l.getD c default).links (l.getD c default).amount s j) →
    ((∀ j, j < (l.getD c default).links.length → PathK n (l.getD c default).links j ∧ EnoughK (l.getD c default).links (l.getD c default).amount s j) ∧ ∃ mp', (∀ v, (mget v mp').getD false = decide (v ∈ seenL n (l.getD c default).links (l.getD c default).links.length)) ∧ sflow_Strands_L1 k n x l (c : Int) m (i : Int) (subL (l.getD c default).links (l.getD c default).amount s i) mp = some (.inr (subL (l.getD c default).links (l.getD c default).amount s (l.getD c default).links.length, mp'))) ∨ ((¬ ∀ j, j < (l.getD c default).links.length → PathK n (l.getD c default).links j ∧ EnoughK (l.getD c default).links (l.getD c default).amount s j) ∧ sflow_Strands_L1 k n x l (c : Int) m (i : Int) (subL (l.getD c default).links (l.getD c default).amount s i) mp = some (.inl false)) := by
  intro m
  induction m with
  | zero => intro i mp h1 h2; omega
  | succ m ih =>
    intro i mp h1 h2 hm h3
    rw [sflow_Strands_L1, gx_nat l c]
    generalize hL : (l.getD c default).links = ls at *
    generalize hA : (l.getD c default).amount = amt at *
    by_cases q : (i : Int) < (ls.length : Int)
    · have hi : i < ls.length := by omega
      rw [if_pos q, if_pos ⟨by omega, q⟩, gx_nat ls i]
      have e1 : (gx n.links (ls.getD i default)).frm = frmK n ls i := rfl
      rw [e1, hm]
      by_cases q1 : ls.getD i default < 0
      · rw [if_pos q1, Option.bind_some, if_pos rfl]
        exact .inr ⟨fun h => by have := (h i hi).1.1; omega, rfl⟩
      · rw [if_neg q1]
        by_cases q2 : (n.links.length : Int) ≤ ls.getD i default
        · rw [if_pos q2, Option.bind_some, if_pos rfl]
          exact .inr ⟨fun h => by have := (h i hi).1.2.1; omega, rfl⟩
        · rw [if_neg q2, if_pos ⟨by omega, by omega⟩]
          by_cases q3 : frmK n ls i ∈ seenL n ls i
          · rw [if_pos (decide_eq_true q3), Option.bind_some, if_pos rfl]
            exact .inr ⟨fun h => (h i hi).1.2.2.1 q3, rfl⟩
          · rw [if_neg (by simpa using q3), if_pos (show (0 : Int) ≤ ls.getD i default ∧ ls.getD i default < (x.length : Int) from ⟨by omega, by omega⟩), if_pos (show (ls.getD i default).toNat < (subL ls amt s i).length by rw [subL_len]; omega)]
            have rr := room_sub (l := ls) ha hr i (fun j hj => ⟨(h3 j hj).2, by have p := (h3 j hj).1; have p1 := p.1; have p2 := p.2.1; omega⟩) (ls.getD i default).toNat (by rw [subL_len]; omega)
            have fin : (0 < i → toK n ls (i - 1) = frmK n ls i) → _ := fun hto => (show
              ((∀ j, j < ls.length → PathK n ls j ∧ EnoughK ls amt s j) ∧ ∃ mp', (∀ v, (mget v mp').getD false = decide (v ∈ seenL n ls ls.length)) ∧ ((some (decide ((subL ls amt s i).getD (ls.getD i default).toNat default < amt)) : Option Bool).bind fun s_5 => if s_5 = true then some (.inl false) else (if (0 : Int) ≤ ls.getD i default ∧ ls.getD i default < (n.links.length : Int) then (if (0 : Int) ≤ ls.getD i default ∧ ls.getD i default < (x.length : Int) then (if (ls.getD i default).toNat < (subL ls amt s i).length then sflow_Strands_L1 k n x l (c : Int) m (IntKind.i64.wrap ((i : Int) + 1)) ((subL ls amt s i).set (ls.getD i default).toNat (IntKind.i64.wrap ((subL ls amt s i).getD (ls.getD i default).toNat default - amt))) (mset (frmK n ls i) true mp) else none) else none) else none)) = some (.inr (subL ls amt s ls.length, mp'))) ∨ ((¬ ∀ j, j < ls.length → PathK n ls j ∧ EnoughK ls amt s j) ∧ ((some (decide ((subL ls amt s i).getD (ls.getD i default).toNat default < amt)) : Option Bool).bind fun s_5 => if s_5 = true then some (.inl false) else (if (0 : Int) ≤ ls.getD i default ∧ ls.getD i default < (n.links.length : Int) then (if (0 : Int) ≤ ls.getD i default ∧ ls.getD i default < (x.length : Int) then (if (ls.getD i default).toNat < (subL ls amt s i).length then sflow_Strands_L1 k n x l (c : Int) m (IntKind.i64.wrap ((i : Int) + 1)) ((subL ls amt s i).set (ls.getD i default).toNat (IntKind.i64.wrap ((subL ls amt s i).getD (ls.getD i default).toNat default - amt))) (mset (frmK n ls i) true mp) else none) else none) else none)) = some (.inl false)) from by
              rw [Option.bind_some]
              by_cases q5 : (subL ls amt s i).getD (ls.getD i default).toNat default < amt
              · rw [if_pos (decide_eq_true q5)]
                exact .inr ⟨fun h => by have := (h i hi).2; unfold EnoughK at this; omega, rfl⟩
              · rw [if_neg (by simpa using q5), if_pos ⟨by omega, by omega⟩, if_pos ⟨by omega, by omega⟩, if_pos (by rw [subL_len]; omega), wr_succ i (by omega), wr64 (by omega)]
                refine ih (i + 1) _ (by omega) (by omega) (fun v => ?_) fun j hj => ?_
                · rw [mget_mset, hm, seenL_succ]
                  by_cases e : v = frmK n ls i
                  · rw [if_pos e]; simp [e]
                  · rw [if_neg e]; simp [e]
                · rcases Nat.lt_succ_iff_lt_or_eq.1 hj with q | q
                  · exact h3 j q
                  · rw [q]; exact ⟨⟨by omega, by omega, q3, hto⟩, by unfold EnoughK; omega⟩)
            by_cases q4 : (0 : Int) < (i : Int)
            · have e2 : IntKind.i64.wrap ((i : Int) - 1) = ((i - 1 : Nat) : Int) := by rw [wr64 (by omega)]; omega
              have e3 : (gx n.links (ls.getD (i - 1) default)).to = toK n ls (i - 1) := rfl
              have p := (h3 (i - 1) (by omega)).1
              rw [if_pos q4, e2, if_pos ⟨by omega, by omega⟩, gx_nat ls (i - 1), if_pos ⟨p.1, p.2.1⟩, e3]
              by_cases q5 : toK n ls (i - 1) = frmK n ls i
              · rw [if_neg (by simpa using q5)]
                exact fin fun _ => q5
              · rw [if_pos q5, Option.bind_some, if_pos rfl]
                exact .inr ⟨fun h => q5 ((h i hi).1.2.2.2 (by omega)), rfl⟩
            · rw [if_neg q4]
              exact fin fun h => by omega
    · rw [if_neg q]
      have : i = ls.length := by omega
      subst this
      exact .inl ⟨h3, mp, hm, rfl⟩
end Go.Proofs.Ytfalnphlgfoflaa
namespace Go.Proofs.Ytfalnphlgfoflaa
open Go Go.RowKit
set_option linter.unusedSimpArgs false
set_option linter.unusedVariables false
theorem fStrands_L0 {k : Nat} {n : Net} {a b : Int} {x : List Int} {l : List Strand} (hx : x.length = n.links.length) (hr : Room x) (hl : l.length ≤ 40) (h40 : ∀ j, j < l.length → (l.getD j default).links.length ≤ 40) (hk : 100 < k) : ∀ (m i : Nat), i ≤ l.length → l.length - i < m → (∀ j, j < i → StrandOk n a b (l.getD j default) (afterL l x j)) →
    ((∀ j, j < l.length → StrandOk n a b (l.getD j default) (afterL l x j)) ∧ sflow_Strands_L0 k n a b x l m (i : Int) (afterL l x i) = some (.inr (afterL l x l.length))) ∨ ((¬ ∀ j, j < l.length → StrandOk n a b (l.getD j default) (afterL l x j)) ∧ sflow_Strands_L0 k n a b x l m (i : Int) (afterL l x i) = some (.inl false)) := by
  intro m
  induction m with
  | zero => intro i h1 h2; omega
  | succ m ih =>
    intro i h1 h2 h3
    rw [sflow_Strands_L0]
    by_cases c : (i : Int) < (l.length : Int)
    · have hi : i < l.length := by omega
      rw [if_pos c, if_pos ⟨by omega, c⟩, gx_nat l i]
      by_cases q1 : (l.getD i default).amount < 1
      · rw [if_pos q1, Option.bind_some, if_pos rfl, Option.bind_some, Sum.elim_inl]
        exact .inr ⟨fun h => by have := (h i hi).1; omega, rfl⟩
      · rw [if_neg q1, Option.bind_some]
        by_cases q2 : ((l.getD i default).links.length : Int) = 0
        · rw [if_pos (decide_eq_true q2), Option.bind_some, Sum.elim_inl]
          exact .inr ⟨fun h => by have := (h i hi).2.1.1; omega, rfl⟩
        · rw [if_neg (by simpa using q2)]
          have h4 := h40 i hi
          rcases fStrands_L1 (k := k) (n := n) (x := x) (l := l) (c := i) (s := afterL l x i) (afterL_len l x i) hx (after_room hx hr i h3) (by omega) h4 k 0 [] (by omega) (by omega) (fun v => by simp [mget, seenL]) (fun j hj => by omega) with ⟨g1, mp, gm, g⟩ | ⟨g1, g⟩
          · rw [show ((0 : Nat) : Int) = 0 from rfl, show subL (l.getD i default).links (l.getD i default).amount (afterL l x i) 0 = afterL l x i from rfl] at g
            rw [g, Option.bind_some, Sum.elim_inr]
            have ge := h3
            generalize hL : (l.getD i default).links = ls at *
            have e : IntKind.i64.wrap ((ls.length : Int) - 1) = ((ls.length - 1 : Nat) : Int) := by rw [wr64 (by omega)]; omega
            have p0 := (g1 0 (by omega)).1
            have p1 := (g1 (ls.length - 1) (by omega)).1
            have g0 : gx ls 0 = ls.getD 0 default := rfl
            have e1 : (gx n.links (ls.getD 0 default)).frm = frmK n ls 0 := rfl
            have e2 : (gx n.links (ls.getD (ls.length - 1) default)).to = toK n ls (ls.length - 1) := rfl
            rw [if_pos ⟨by omega, by omega⟩, e, gx_nat ls (ls.length - 1), g0, if_pos ⟨p0.1, p0.2.1⟩, if_pos ⟨by omega, by omega⟩, if_pos ⟨p1.1, p1.2.1⟩, e1, e2, gm]
            have next : EndOk n a b ls → _ := fun h => ih (i + 1) (by omega) (by omega) fun j hj => by
              rcases Nat.lt_succ_iff_lt_or_eq.1 hj with q | q
              · exact h3 j q
              · rw [q]; exact ⟨by omega, by rw [hL]; exact ⟨by omega, fun j hj => (g1 j hj).1, h⟩, by rw [hL]; exact fun j hj => (g1 j hj).2⟩
            rw [afterL, hL] at next
            have bad : ¬ EndOk n a b ls → ¬ ∀ j, j < l.length → StrandOk n a b (l.getD j default) (afterL l x j) := fun h hh => h (by have := (hh i hi).2.1.2.2; rwa [hL] at this)
            by_cases q3 : frmK n ls 0 = toK n ls (ls.length - 1)
            · rw [if_neg (by simpa using q3), Option.bind_some, Sum.elim_inr, wr_succ i (by omega)]
              exact next (.inl q3)
            · rw [if_pos q3]
              by_cases q4 : frmK n ls 0 = a
              · rw [if_neg (by simpa using q4)]
                by_cases q5 : toK n ls (ls.length - 1) = b
                · rw [if_neg (by simpa using q5)]
                  by_cases q6 : toK n ls (ls.length - 1) ∈ seenL n ls ls.length
                  · rw [if_pos (decide_eq_true q6), Option.bind_some, Sum.elim_inl]
                    exact .inr ⟨bad fun h => h.elim q3 fun h => h.2.2 q6, rfl⟩
                  · rw [if_neg (by simpa using q6), Option.bind_some, Sum.elim_inr, wr_succ i (by omega)]
                    exact next (.inr ⟨q4, q5, q6⟩)
                · rw [if_pos q5, Option.bind_some, Sum.elim_inl]
                  exact .inr ⟨bad fun h => h.elim q3 fun h => q5 h.2.1, rfl⟩
              · rw [if_pos q4, Option.bind_some, Sum.elim_inl]
                exact .inr ⟨bad fun h => h.elim q3 fun h => q4 h.1, rfl⟩
          · rw [show ((0 : Nat) : Int) = 0 from rfl, show subL (l.getD i default).links (l.getD i default).amount (afterL l x i) 0 = afterL l x i from rfl] at g
            rw [g, Option.bind_some, Sum.elim_inl, Option.bind_some, Sum.elim_inl]
            exact .inr ⟨fun h => g1 fun j hj => ⟨(h i hi).2.1.2.1 j hj, (h i hi).2.2 j hj⟩, rfl⟩
    · rw [if_neg c]
      have : i = l.length := by omega
      subst this
      exact .inl ⟨h3, rfl⟩
theorem fStrands_spec {k : Nat} {n : Net} {a b : Int} {x : List Int} {l : List Strand} (hn : n.links.length ≤ 24) (hx : x.length = n.links.length) (hr : Room x) (hl : l.length ≤ 40) (h40 : ∀ j, j < l.length → (l.getD j default).links.length ≤ 40) (hk : 100 < k) : ∃ r, sflow_Strands k n a b x l = some r ∧ (r = true ↔ StrandsOk n a b x l) := by
  unfold sflow_Strands
  rw [if_pos (by omega)]
  rcases fStrands_L0 (k := k) (n := n) (a := a) (b := b) (x := x) (l := l) hx hr hl h40 hk k 0 (by omega) (by omega) (fun j hj => by omega) with ⟨h1, h⟩ | ⟨h1, h⟩
  · rw [show ((0 : Nat) : Int) = 0 from rfl, show afterL l x 0 = x from rfl] at h
    rw [h, Option.bind_some, Sum.elim_inr]
    by_cases c : (l.length : Int) ≤ (n.links.length : Int)
    · rw [if_pos c, if_pos (afterL_len l x _), ContainsFunc_spec (p := fun y => sflow_Strands_1 k y) (fun y => decide (y ≠ 0)) (fun _ _ => rfl) (by rw [afterL_len]; omega) (by rw [afterL_len]; omega), Option.bind_some]
      refine ⟨_, rfl, ?_⟩
      rw [Bool.not_eq_true', List.any_eq_false]
      constructor
      · intro hh
        refine ⟨h1, fun j hj => ?_, by omega⟩
        have := hh _ (getD_mem (l := afterL l x l.length) (i := j) (by rw [afterL_len]; exact hj))
        simpa using this
      · intro hh y hy
        obtain ⟨j, hj, rfl⟩ := List.getElem_of_mem hy
        rw [← getD_of hj, hh.2.1 j (by rw [afterL_len] at hj; exact hj)]
        simp
    · rw [if_neg c]
      exact ⟨false, rfl, by simp only [Bool.false_eq_true, false_iff]; exact fun q => c (by have := q.2.2; omega)⟩
  · rw [show ((0 : Nat) : Int) = 0 from rfl, show afterL l x 0 = x from rfl] at h
    rw [h, Option.bind_some, Sum.elim_inl]
    exact ⟨false, rfl, by simp only [Bool.false_eq_true, false_iff]; exact fun q => h1 q.1⟩
end Go.Proofs.Ytfalnphlgfoflaa
