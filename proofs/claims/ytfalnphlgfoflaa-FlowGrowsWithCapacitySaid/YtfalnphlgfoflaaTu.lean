/- Trees: a slice that lies in a variable becomes a list that nobody writes; a nil slice there becomes an empty box. No program in sight. -/
import Derived.Test.YtfalnphlgfoflaaSh
namespace Go.Proofs.Ytfalnphlgfoflaa
open Go Go.RowKit
set_option linter.unusedSimpArgs false
set_option linter.unusedVariables false
section
variable {GL : List (Nat × List Value)} {A A' A2 : Nat → Prop} {β β' β2 : Bx} {S S' S2 : TS} {s s' s2 : CS} {P : Program} {Γ : Env} {N : Nat} {h h' h2 : Nat → T} {Q R : Exit → (Nat → T) → TS → Prop}
theorem VL.setAt {g : Nat → Fam} {t : T} {v : Value} : ∀ {l : List T} {vs : List Value} {i : Nat}, VL A β g l vs → vs[i]? = some v → VT A β g t v → VL A β g (l.set i t) vs
  | [], _, _, .nil, _, _ => .nil
  | x :: l, y :: vs, 0, .cons k1 k2, hv, ht => by
    simp only [List.getElem?_cons_zero, Option.some.injEq] at hv
    subst hv
    exact .cons ht k2
  | x :: l, y :: vs, i + 1, .cons k1 k2, hv, ht => .cons k1 (VL.setAt k2 (by simpa using hv) ht)
theorem TW.freezeC {c : Code} (c0 i : Nat) {b e len M N0 : Nat} {z z0 : Bool} {l l0 : List T} (L : List T) (hS0 : S.box c0 = .cells z0 N0 l0) (hi : l0[i]? = some (.arr b e 0 len len M)) (hne : c0 ≠ b) (hS : S.box b = .cells z M l) (he : 0 < e) (hoff : 0 + len * e ≤ M) (hL : (l.drop 0).take (len * e) = L.flatMap T.cells) (hs : ∀ t, t ∈ L → t.cells.length = e) (hlen : L.length = len)
    (k : TW P Γ GL N c h ((S.set c0 (.cells z0 N0 (l0.set i (.lst e L)))).set b .gone) Q) : TW P Γ GL N c h S Q := by
  intro A β fr s hF hT
  obtain ⟨A', β', k1, k2, k3⟩ := hT.freeze hS
  obtain ⟨n0, hc⟩ := hT.cells c0 z0 N0 l0 hS0
  have hS0' : (S.set b .gone).box c0 = .cells z0 N0 l0 := by rw [TS.set_ne _ _ hne]; exact hS0
  obtain ⟨n1, hc'⟩ := k1.cells c0 z0 N0 l0 hS0'
  have hi0 : i < l0.length := (List.getElem?_eq_some_iff.1 hi).1
  have hnew : CellsAt A' β' (objAt s.obj) c0 z0 N0 (l0.set i (.lst e L)) := by
    rcases hc with ⟨_, q, _⟩ | ⟨f, u, cs, rest, a1, a2, a3, a4, a5⟩
    · omega
    · rcases hc' with ⟨_, q, _⟩ | ⟨f', u', cs', rest', b1, b2, b3, b4, b5⟩
      · omega
      · obtain ⟨l', c1, c2⟩ := k2.bx c0 _ a1
        rw [b1] at c1
        cases c1
        simp only [Loc.le] at c2
        rcases c2 with ⟨rfl, rfl, _⟩ | c2
        · rw [a3] at b3
          simp only [Fam.mk.injEq, List.cons.injEq, Prod.mk.injEq] at b3
          obtain ⟨_, ⟨⟨_, rfl⟩, rfl⟩, _⟩ := b3
          obtain ⟨v, v1, v2⟩ := a4.get hi
          refine ⟨by rw [List.length_set]; exact n0, .inr ⟨f, u, cs, rest, b1, a2, a3, b4.setAt v1 (k3 v2 he hoff hL hs hlen (Nat.le_refl _)), a5⟩⟩
        · omega
  have hT' : TRel GL A' β' ((S.set c0 (.cells z0 N0 (l0.set i (.lst e L)))).set b .gone) s := by
    refine ⟨k1.inr, k1.inv, k1.alt, k1.dis, k1.inj, k1.next, fun b' z N' l' hb' => ?_, fun b' l' hb' => ?_, k1.glob⟩
    · by_cases e1 : b' = b
      · subst e1; rw [TS.set_same] at hb'; cases hb'
      · rw [TS.set_ne _ _ e1] at hb'
        by_cases e2 : b' = c0
        · subst e2; rw [TS.set_same] at hb'; cases hb'; exact hnew
        · rw [TS.set_ne _ _ e2] at hb'
          exact k1.cells b' z N' l' (by rw [TS.set_ne _ _ e1]; exact hb')
    · by_cases e1 : b' = b
      · subst e1; rw [TS.set_same] at hb'; cases hb'
      · rw [TS.set_ne _ _ e1] at hb'
        by_cases e2 : b' = c0
        · subst e2; rw [TS.set_same] at hb'; cases hb'
        · rw [TS.set_ne _ _ e2] at hb'
          exact k1.maps b' l' (by rw [TS.set_ne _ _ e1]; exact hb')
  have hF' : FrOk A' β' (objAt s.obj) N h fr := ⟨hF.nt, hF.le, fun u => k2.vt hT (hF.slot u)⟩
  refine (k A' β' fr s hF' hT').mono ?_
  rintro e2 fr2 s2 ⟨h2, S2, l2, q2⟩
  exact ⟨h2, S2, Left.trans (h' := h) (fr' := fr) hT.le k2 l2, q2⟩
theorem TW.nilC {c : Code} (c0 i e : Nat) {N0 : Nat} {z0 : Bool} {l0 : List T} (hS0 : S.box c0 = .cells z0 N0 l0) (hi : l0[i]? = some .nils) (k : TW P Γ GL N c h (S.set c0 (.cells z0 N0 (l0.set i (.lst e [])))) Q) : TW P Γ GL N c h S Q := by
  intro A β fr s hF hT
  obtain ⟨n0, hc⟩ := hT.cells c0 z0 N0 l0 hS0
  have hi0 : i < l0.length := (List.getElem?_eq_some_iff.1 hi).1
  have hnew : CellsAt A β (objAt s.obj) c0 z0 N0 (l0.set i (.lst e [])) := by
    rcases hc with ⟨_, q, _⟩ | ⟨f, u, cs, rest, a1, a2, a3, a4, a5⟩
    · omega
    · obtain ⟨v, v1, v2⟩ := a4.get hi
      refine ⟨by rw [List.length_set]; exact n0, .inr ⟨f, u, cs, rest, a1, a2, a3, a4.setAt v1 ?_, a5⟩⟩
      cases v2
      exact .lnil
  have hT' : TRel GL A β (S.set c0 (.cells z0 N0 (l0.set i (.lst e [])))) s := by
    refine ⟨hT.inr, hT.inv, hT.alt, hT.dis, hT.inj, hT.next, fun b' z N' l' hb' => ?_, fun b' l' hb' => ?_, hT.glob⟩
    · by_cases e2 : b' = c0
      · subst e2; rw [TS.set_same] at hb'; cases hb'; exact hnew
      · rw [TS.set_ne _ _ e2] at hb'
        exact hT.cells b' z N' l' hb'
    · by_cases e2 : b' = c0
      · subst e2; rw [TS.set_same] at hb'; cases hb'
      · rw [TS.set_ne _ _ e2] at hb'
        exact hT.maps b' l' hb'
  exact k A β fr s hF hT'
end
theorem flat_vec {α : Type} (f : α → T) (l : List α) : (l.map f).flatMap T.cells = vecC f l := rfl
theorem vecC_all {α : Type} {f : α → T} (h : ∀ x, (f x).cells.all T.one = true) : ∀ (l : List α), (vecC f l).all T.one = true
  | [] => rfl
  | x :: l => by
    have ih := vecC_all h l
    unfold vecC at ih ⊢
    rw [List.map_cons, List.flatMap_cons, List.all_append, h, ih]; rfl
theorem ids_vec {α : Type} {f : α → T} {n : Nat} (h : ∀ x, T.idsL n (f x).cells = true) : ∀ (l : List α), T.idsL n (vecC f l) = true
  | [] => rfl
  | x :: l => by
    have ih := ids_vec h l
    unfold vecC at ih ⊢
    rw [List.map_cons, List.flatMap_cons, idsL_append, ih, h]; rfl
def Le1 : List T → List T → Prop
  | [], [] => True
  | t :: l, t' :: l' => (t = t' ∨ (t = .nils ∧ ∃ e, t' = .lst e [])) ∧ Le1 l l'
  | _, _ => False
def Le2 : List T → List T → Prop
  | [], [] => True
  | t :: l, t' :: l' => (t = t' ∨ (t = .nils ∧ ∃ e, t' = .lst e []) ∨ ∃ m m', t = .agg m ∧ t' = .agg m' ∧ Le1 m m') ∧ Le2 l l'
  | _, _ => False
theorem Le1.vl {A : Nat → Prop} {β : Bx} {g : Nat → Fam} : ∀ {l l' : List T} {vs : List Value}, Le1 l l' → VL A β g l vs → VL A β g l' vs
  | [], [], _, _, .nil => .nil
  | t :: l, t' :: l', _, h, .cons k1 k2 => by
    obtain ⟨h1, h2⟩ := h
    rcases h1 with rfl | ⟨rfl, e, rfl⟩
    · exact .cons k1 (Le1.vl h2 k2)
    · cases k1; exact .cons .lnil (Le1.vl h2 k2)
theorem Le2.vl {A : Nat → Prop} {β : Bx} {g : Nat → Fam} : ∀ {l l' : List T} {vs : List Value}, Le2 l l' → VL A β g l vs → VL A β g l' vs
  | [], [], _, _, .nil => .nil
  | t :: l, t' :: l', _, h, .cons k1 k2 => by
    obtain ⟨h1, h2⟩ := h
    rcases h1 with rfl | ⟨rfl, e, rfl⟩ | ⟨m, m', rfl, rfl, h3⟩
    · exact .cons k1 (Le2.vl h2 k2)
    · cases k1; exact .cons .lnil (Le2.vl h2 k2)
    · cases k1 with | agg k => exact .cons (.agg (h3.vl k)) (Le2.vl h2 k2)
end Go.Proofs.Ytfalnphlgfoflaa
