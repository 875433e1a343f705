/- Trees: a slice that lies in a variable becomes a list that nobody writes; a nil slice there becomes an empty box. No program in sight. -/
import Derived.Test.YtfalnphlgfoflaaSh
namespace Go.Proofs.Ytfalnphlgfoflaa
open Go Go.RowKit
set_option linter.unusedSimpArgs false
set_option linter.unusedVariables false
section
variable {GL : List (Nat × List Value)} {A A' A2 : Nat → Prop} {β β' β2 : Bx} {S S' S2 : TS} {s s' s2 : CS} {P : Program} {Γ : Env} {N : Nat} {h h' h2 : Nat → T} {Q R : Exit → (Nat → T) → TS → Prop}
theorem VL.setAt {g : Nat → Fam} {t : T} {v : Value} : ∀ {l : List T} {vs : List Value} {i : Nat}, VL A β g l vs → vs[i]? = some v → VT A β g t v → VL A β g (l.set i t) vs
  | [], _, _, .nil, _, _ => .nil
  | x :: l, y :: vs, 0, .cons k1 k2, hv, ht => by
    simp only [List.getElem?_cons_zero, Option.some.injEq] at hv
    subst hv
    exact .cons ht k2
  | x :: l, y :: vs, i + 1, .cons k1 k2, hv, ht => .cons k1 (VL.setAt k2 (by simpa using hv) ht)
theorem TW.nilC {c : Code} (c0 i e : Nat) {N0 : Nat} {z0 : Bool} {l0 : List T} (hS0 : S.box c0 = .cells z0 N0 l0) (hi : l0[i]? = some .nils) (k : TW P Γ GL N c h (S.set c0 (.cells z0 N0 (l0.set i (.lst e [])))) Q) : TW P Γ GL N c h S Q := by
  intro A β fr s hF hT
  obtain ⟨n0, hc⟩ := hT.cells c0 z0 N0 l0 hS0
  have hi0 : i < l0.length := (List.getElem?_eq_some_iff.1 hi).1
  have hnew : CellsAt A β (objAt s.obj) c0 z0 N0 (l0.set i (.lst e [])) := by
    rcases hc with ⟨_, q, _⟩ | ⟨f, u, cs, rest, a1, a2, a3, a4, a5⟩
    · omega
    · obtain ⟨v, v1, v2⟩ := a4.get hi
      refine ⟨by rw [List.length_set]; exact n0, .inr ⟨f, u, cs, rest, a1, a2, a3, a4.setAt v1 ?_, a5⟩⟩
      cases v2
      exact .lnil
  have hT' : TRel GL A β (S.set c0 (.cells z0 N0 (l0.set i (.lst e [])))) s := by
    refine ⟨hT.inr, hT.inv, hT.alt, hT.dis, hT.inj, hT.next, fun b' z N' l' hb' => ?_, fun b' l' hb' => ?_, hT.glob⟩
    · by_cases e2 : b' = c0
      · subst e2; rw [TS.set_same] at hb'; cases hb'; exact hnew
      · rw [TS.set_ne _ _ e2] at hb'
        exact hT.cells b' z N' l' hb'
    · by_cases e2 : b' = c0
      · subst e2; rw [TS.set_same] at hb'; cases hb'
      · rw [TS.set_ne _ _ e2] at hb'
        exact hT.maps b' l' hb'
  exact k A β fr s hF hT'
theorem TW.vecC {c : Code} (c0 i e : Nat) {N0 : Nat} {z0 : Bool} {l0 : List T} (hS0 : S.box c0 = .cells z0 N0 l0) (hi : l0[i]? = some .nils) (h0 : c0 < S.n) (k : TW P Γ GL N c h ((S.set c0 (.cells z0 N0 (l0.set i (.arr S.n e 0 0 0 0)))).add (.cells false 0 [])) Q) : TW P Γ GL N c h S Q := by
  intro A β fr s hF hT
  have hb0 : β S.n = none := hT.next _ (Nat.le_refl _)
  have hle : Bx.le β (bnew β S.n .nil) := bnew_le hb0
  have hse : bnew β S.n .nil S.n = some .nil := if_pos rfl
  have hne : ∀ b', b' ≠ S.n → bnew β S.n .nil b' = β b' := fun b' hb' => if_neg hb'
  have hown : ∀ f, Own (bnew β S.n .nil) f → Own β f := fun f ⟨b', hb'⟩ => by
    by_cases hi : b' = S.n
    · subst hi
      rw [hse] at hb'
      rcases hb' with ⟨u, N, hb'⟩ | hb' <;> simp at hb'
    · rw [hne b' hi] at hb'; exact ⟨b', hb'⟩
  have hst : Stp A β s A (bnew β S.n .nil) s := ⟨Can.refl _, fun _ h => h, fun _ h => .inl h, fun f hf => .inl (hown f hf), fun _ _ _ => rfl, hle, fun _ h => .inl h, fun _ h => .inl h⟩
  obtain ⟨n0, hc⟩ := hT.cells c0 z0 N0 l0 hS0
  have hi0 : i < l0.length := (List.getElem?_eq_some_iff.1 hi).1
  have hnew : CellsAt A (bnew β S.n .nil) (objAt s.obj) c0 z0 N0 (l0.set i (.arr S.n e 0 0 0 0)) := by
    rcases hc with ⟨_, q, _⟩ | ⟨f, u, cs, rest, a1, a2, a3, a4, a5⟩
    · omega
    · obtain ⟨v, v1, v2⟩ := a4.get hi
      have a4' := a4.mono (A' := A) (β' := bnew β S.n .nil) (g' := objAt s.obj) (fun _ h => h) (fun _ _ => rfl) hle
      refine ⟨by rw [List.length_set]; exact n0, .inr ⟨f, u, cs, rest, by rw [hne c0 (by omega)]; exact a1, a2, a3, a4'.setAt v1 ?_, a5⟩⟩
      cases v2
      exact .arrNil hse
  have hT' : TRel GL A (bnew β S.n .nil) ((S.set c0 (.cells z0 N0 (l0.set i (.arr S.n e 0 0 0 0)))).add (.cells false 0 [])) s := by
    refine ⟨hT.inr, hT.inv, hT.alt, fun f hf => hT.dis f (hown f hf), fun b1 b2 l1 l2 f h1 h2 h3 h4 => ?_, fun b' hb' => ?_, fun b' z N l hb' => ?_, fun b' l hb' => ?_, hT.glob⟩
    · by_cases e1 : b1 = S.n
      · subst e1; rw [hse] at h1; cases h1; simp [Loc.fam] at h3
      · by_cases e2 : b2 = S.n
        · subst e2; rw [hse] at h2; cases h2; simp [Loc.fam] at h4
        · rw [hne b1 e1] at h1; rw [hne b2 e2] at h2
          exact hT.inj b1 b2 l1 l2 f h1 h2 h3 h4
    · have : S.n + 1 ≤ b' := hb'
      rw [hne b' (by omega)]
      exact hT.next b' (by omega)
    · by_cases hi : b' = S.n
      · subst hi
        have hq := (TS.add_same (S.set c0 (.cells z0 N0 (l0.set i (.arr S.n e 0 0 0 0)))) (.cells false 0 [])).symm.trans hb'
        cases hq; exact ⟨rfl, .inl ⟨hse, rfl, rfl⟩⟩
      · rw [TS.add_ne _ _ (show b' ≠ (S.set c0 (.cells z0 N0 (l0.set i (.arr S.n e 0 0 0 0)))).n from hi)] at hb'
        by_cases e2 : b' = c0
        · subst e2; rw [TS.set_same] at hb'; cases hb'; exact hnew
        · rw [TS.set_ne _ _ e2] at hb'
          exact (hT.cells b' z N l hb').mono (fun _ h => h) (fun _ _ => rfl) hle (hne b' hi) fun _ _ _ _ => rfl
    · by_cases hi : b' = S.n
      · subst hi
        have hq := (TS.add_same (S.set c0 (.cells z0 N0 (l0.set i (.arr S.n e 0 0 0 0)))) (.cells false 0 [])).symm.trans hb'
        cases hq
      · rw [TS.add_ne _ _ (show b' ≠ (S.set c0 (.cells z0 N0 (l0.set i (.arr S.n e 0 0 0 0)))).n from hi)] at hb'
        by_cases e2 : b' = c0
        · subst e2; rw [TS.set_same] at hb'; cases hb'
        · rw [TS.set_ne _ _ e2] at hb'
          exact (hT.maps b' l hb').mono (fun _ h => h) (fun _ _ => rfl) hle (hne b' hi) fun _ _ => rfl
  have hF' : FrOk A (bnew β S.n .nil) (objAt s.obj) N h fr := ⟨hF.nt, hF.le, fun u => hst.vt hT (hF.slot u)⟩
  refine (k A _ fr s hF' hT').mono ?_
  rintro e2 fr2 s2 ⟨h2, S2, l2, q2⟩
  exact ⟨h2, S2, Left.trans (h' := h) (fr' := fr) hT.le hst l2, q2⟩
end
def Le1 : List T → List T → Prop
  | [], [] => True
  | t :: l, t' :: l' => (t = t' ∨ (t = .nils ∧ ∃ e, t' = .lst e [])) ∧ Le1 l l'
  | _, _ => False
def Le2 : List T → List T → Prop
  | [], [] => True
  | t :: l, t' :: l' => (t = t' ∨ (t = .nils ∧ ∃ e, t' = .lst e []) ∨ ∃ m m', t = .agg m ∧ t' = .agg m' ∧ Le1 m m') ∧ Le2 l l'
  | _, _ => False
theorem Le1.vl {A : Nat → Prop} {β : Bx} {g : Nat → Fam} : ∀ {l l' : List T} {vs : List Value}, Le1 l l' → VL A β g l vs → VL A β g l' vs
  | [], [], _, _, .nil => .nil
  | t :: l, t' :: l', _, h, .cons k1 k2 => by
    obtain ⟨h1, h2⟩ := h
    rcases h1 with rfl | ⟨rfl, e, rfl⟩
    · exact .cons k1 (Le1.vl h2 k2)
    · cases k1; exact .cons .lnil (Le1.vl h2 k2)
theorem Le2.vl {A : Nat → Prop} {β : Bx} {g : Nat → Fam} : ∀ {l l' : List T} {vs : List Value}, Le2 l l' → VL A β g l vs → VL A β g l' vs
  | [], [], _, _, .nil => .nil
  | t :: l, t' :: l', _, h, .cons k1 k2 => by
    obtain ⟨h1, h2⟩ := h
    rcases h1 with rfl | ⟨rfl, e, rfl⟩ | ⟨m, m', rfl, rfl, h3⟩
    · exact .cons k1 (Le2.vl h2 k2)
    · cases k1; exact .cons .lnil (Le2.vl h2 k2)
    · cases k1 with | agg k => exact .cons (.agg (h3.vl k)) (Le2.vl h2 k2)
end Go.Proofs.Ytfalnphlgfoflaa
