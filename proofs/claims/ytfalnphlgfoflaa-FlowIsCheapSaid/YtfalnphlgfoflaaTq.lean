/- Trees: a call's law in a small state holds in every greater one, with its boxes renamed. No program in sight. -/
import Derived.Test.YtfalnphlgfoflaaTo
namespace Go.Proofs.Ytfalnphlgfoflaa
open Go Go.RowKit
set_option linter.unusedSimpArgs false
set_option linter.unusedVariables false
set_option linter.unusedSectionVars false
mutual
def T.ren (ρ : Nat → Nat) : T → T
  | .agg l => .agg (T.renL ρ l)
  | .tup l => .tup (T.renL ρ l)
  | .lst e l => .lst e (T.renL ρ l)
  | .cp l => .cp (T.renL ρ l)
  | .ptr b o N => .ptr (ρ b) o N
  | .arr b e o l c N => .arr (ρ b) e o l c N
  | .mp b => .mp (ρ b)
  | .fn f a c => .fn f (T.renL ρ a) (T.renL ρ c)
  | .int k n => .int k n
  | .bool b => .bool b
  | .str b => .str b
  | .nils => .nils
  | .nilp => .nilp
  | .nilm => .nilm
  | .nilf => .nilf
  | .junk => .junk
  | .emp e => .emp e
def T.renL (ρ : Nat → Nat) : List T → List T
  | [] => []
  | t :: l => t.ren ρ :: T.renL ρ l
end
def renBox (ρ : Nat → Nat) : Box → Box
  | .gone => .gone
  | .cells z N l => .cells z N (T.renL ρ l)
  | .map l => .map (l.map fun p => (p.1.ren ρ, p.2.ren ρ))
section
variable {GL : List (Nat × List Value)} {A A' A1 : Nat → Prop} {β β' β0 β1 : Bx} {S S' S0 S1 : TS} {s s' s1 : CS} {P : Program} {Γ : Env} {g g' : Nat → Fam} {ρ : Nat → Nat} {n : Nat}
theorem renL_map : ∀ (l : List T), T.renL ρ l = l.map (T.ren ρ)
  | [] => rfl
  | t :: l => by rw [T.renL, List.map_cons, renL_map l]
theorem renL_len (l : List T) : (T.renL ρ l).length = l.length := by rw [renL_map, List.length_map]
theorem renL_append (l m : List T) : T.renL ρ (l ++ m) = T.renL ρ l ++ T.renL ρ m := by simp only [renL_map, List.map_append]
theorem ren_cells (t : T) : (t.ren ρ).cells = T.renL ρ t.cells := by
  cases t <;> simp only [T.ren, T.cells, T.renL]
theorem ren_flat : ∀ (l : List T), (T.renL ρ l).flatMap T.cells = T.renL ρ (l.flatMap T.cells)
  | [] => rfl
  | t :: l => by rw [T.renL, List.flatMap_cons, List.flatMap_cons, ren_cells, ren_flat l, renL_append]
theorem idsL_of : ∀ {l : List T}, T.idsL n l = true → ∀ t, t ∈ l → t.ids n = true
  | [], _, t, h => by simp at h
  | x :: l, h, t, ht => by
    simp only [T.idsL, Bool.and_eq_true] at h
    rcases List.mem_cons.1 ht with rfl | ht
    · exact h.1
    · exact idsL_of h.2 t ht
mutual
theorem VT.up (hβ : ∀ b, b < n → β' (ρ b) = β b) : ∀ {t : T} {v : Value}, t.ids n = true → VT A β g t v → VT A β' g (t.ren ρ) v
  | _, _, _, .int k n => .int k n
  | _, _, _, .bool b => .bool b
  | _, _, _, .str b => .str b
  | _, _, hi, .agg h => .agg (VL.up hβ hi h)
  | _, _, hi, .tup h => .tup (VL.up hβ hi h)
  | _, _, _, .lnil => .lnil
  | .lst e l, _, hi, .lst h1 h2 h3 h4 h5 h6 h7 h8 => by
    have q := VL.up hβ (idsL_cells hi) h3
    rw [← ren_flat] at q
    have := VT.lst (l := T.renL ρ l) h1 h2 q (fun t ht => by rw [renL_map] at ht; obtain ⟨x, hx, rfl⟩ := List.mem_map.1 ht; rw [ren_cells, renL_len]; exact h4 x hx) h5 h6 h7 (by rw [renL_len]; exact h8)
    rw [renL_len] at this
    exact this
  | _, _, _, .nils => .nils
  | _, _, _, .nilp => .nilp
  | _, _, _, .nilm => .nilm
  | _, _, _, .nilf => .nilf
  | _, _, hi, .ptr h => .ptr (by rw [hβ _ (blt_iff.1 hi)]; exact h)
  | _, _, hi, .ptrOld h h0 h1 h2 => .ptrOld (by rw [hβ _ (blt_iff.1 hi)]; exact h) h0 h1 h2
  | _, _, hi, .cp h1 h2 h3 h4 => .cp h1 h2 (VL.up hβ hi h3) h4
  | _, _, hi, .arr h ht => .arr (by rw [hβ _ (blt_iff.1 hi)]; exact h) ht
  | _, _, hi, .arrNil h => .arrNil (by rw [hβ _ (blt_iff.1 hi)]; exact h)
  | _, _, hi, .arrOld h h0 h1 h2 => .arrOld (by rw [hβ _ (blt_iff.1 hi)]; exact h) h0 h1 h2
  | _, _, hi, .mp h => .mp (by rw [hβ _ (blt_iff.1 hi)]; exact h)
  | _, _, hi, .mpOld h h2 => .mpOld (by rw [hβ _ (blt_iff.1 hi)]; exact h) h2
  | _, _, hi, .fn h1 h2 => by
    simp only [T.ids, Bool.and_eq_true] at hi
    exact .fn (VL.up hβ hi.1 h1) (VL.up hβ hi.2 h2)
  | _, _, _, .junk v => .junk v
  | _, _, _, .emp h1 h2 h3 h4 => .emp h1 h2 h3 h4
theorem VL.up (hβ : ∀ b, b < n → β' (ρ b) = β b) : ∀ {l : List T} {vs : List Value}, T.idsL n l = true → VL A β g l vs → VL A β' g (T.renL ρ l) vs
  | _, _, _, .nil => .nil
  | _, _, hi, .cons h k => by
    simp only [T.idsL, Bool.and_eq_true] at hi
    exact .cons (VT.up hβ hi.1 h) (VL.up hβ hi.2 k)
end
mutual
theorem VT.down (hβ : ∀ b, b < n → β' b = β (ρ b)) : ∀ {t' : T} {v : Value}, VT A β g t' v → ∀ {t : T}, t.ren ρ = t' → t.ids n = true → VT A β' g t v
  | _, _, .int k m, t, e, hi => by
    cases t <;> simp [T.ren] at e
    obtain ⟨rfl, rfl⟩ := e
    exact .int _ _
  | _, _, .bool b, t, e, hi => by
    cases t <;> simp [T.ren] at e
    subst e
    exact .bool _
  | _, _, .str b, t, e, hi => by
    cases t <;> simp [T.ren] at e
    subst e
    exact .str _
  | _, _, .agg h, t, e, hi => by
    cases t <;> simp [T.ren] at e
    exact .agg (VL.down hβ h e hi)
  | _, _, .tup h, t, e, hi => by
    cases t <;> simp [T.ren] at e
    exact .tup (VL.down hβ h e hi)
  | _, _, .lnil, t, e, hi => by
    cases t <;> simp [T.ren] at e
    rename_i e' l
    obtain ⟨rfl, e⟩ := e
    cases l with
    | nil => exact .lnil
    | cons x l => simp [T.renL] at e
  | _, _, .lst (l := l') h1 h2 h3 h4 h5 h6 h7 h8, t, e, hi => by
    cases t <;> simp [T.ren] at e
    rename_i e' l
    have q := VL.down hβ h3 (l := l.flatMap T.cells) (by rw [← e.2]; exact (ren_flat l).symm) (idsL_cells hi)
    obtain ⟨rfl, rfl⟩ := e
    have := VT.lst (l := l) h1 h2 q (fun t ht => by have := h4 (t.ren ρ) (by rw [renL_map]; exact List.mem_map_of_mem ht); rw [ren_cells, renL_len] at this; exact this) h5 h6 h7 (by rw [renL_len] at h8; exact h8)
    rw [renL_len]
    exact this
  | _, _, .nils, t, e, hi => by cases t <;> simp [T.ren] at e; exact .nils
  | _, _, .nilp, t, e, hi => by cases t <;> simp [T.ren] at e; exact .nilp
  | _, _, .nilm, t, e, hi => by cases t <;> simp [T.ren] at e; exact .nilm
  | _, _, .nilf, t, e, hi => by cases t <;> simp [T.ren] at e; exact .nilf
  | _, _, .ptr h, t, e, hi => by
    cases t <;> simp [T.ren] at e
    obtain ⟨rfl, rfl, rfl⟩ := e
    exact .ptr (by rw [hβ _ (blt_iff.1 hi)]; exact h)
  | _, _, .ptrOld h h0 h1 h2, t, e, hi => by
    cases t <;> simp [T.ren] at e
    obtain ⟨rfl, rfl, rfl⟩ := e
    exact .ptrOld (by rw [hβ _ (blt_iff.1 hi)]; exact h) h0 h1 h2
  | _, _, .cp h1 h2 h3 h4, t, e, hi => by
    cases t <;> simp [T.ren] at e
    exact .cp h1 h2 (VL.down hβ h3 e hi) h4
  | _, _, .arr h ht, t, e, hi => by
    cases t <;> simp [T.ren] at e
    obtain ⟨rfl, rfl, rfl, rfl, rfl, rfl⟩ := e
    exact .arr (by rw [hβ _ (blt_iff.1 hi)]; exact h) ht
  | _, _, .arrNil h, t, e, hi => by
    cases t <;> simp [T.ren] at e
    obtain ⟨rfl, rfl, rfl, rfl, rfl, rfl⟩ := e
    exact .arrNil (by rw [hβ _ (blt_iff.1 hi)]; exact h)
  | _, _, .arrOld h h0 h1 h2, t, e, hi => by
    cases t <;> simp [T.ren] at e
    obtain ⟨rfl, rfl, rfl, rfl, rfl, rfl⟩ := e
    exact .arrOld (by rw [hβ _ (blt_iff.1 hi)]; exact h) h0 h1 h2
  | _, _, .mp h, t, e, hi => by
    cases t <;> simp [T.ren] at e
    subst e
    exact .mp (by rw [hβ _ (blt_iff.1 hi)]; exact h)
  | _, _, .mpOld h h2, t, e, hi => by
    cases t <;> simp [T.ren] at e
    subst e
    exact .mpOld (by rw [hβ _ (blt_iff.1 hi)]; exact h) h2
  | _, _, .fn h1 h2, t, e, hi => by
    cases t <;> simp [T.ren] at e
    obtain ⟨rfl, e1, e2⟩ := e
    simp only [T.ids, Bool.and_eq_true] at hi
    exact .fn (VL.down hβ h1 e1 hi.1) (VL.down hβ h2 e2 hi.2)
  | _, _, .junk v, t, e, hi => by cases t <;> simp [T.ren] at e; exact .junk _
  | _, _, .emp h1 h2 h3 h4, t, e, hi => by
    cases t <;> simp [T.ren] at e
    subst e
    exact .emp h1 h2 h3 h4
theorem VL.down (hβ : ∀ b, b < n → β' b = β (ρ b)) : ∀ {l' : List T} {vs : List Value}, VL A β g l' vs → ∀ {l : List T}, T.renL ρ l = l' → T.idsL n l = true → VL A β' g l vs
  | _, _, .nil, l, e, hi => by
    cases l with
    | nil => exact .nil
    | cons x l => simp [T.renL] at e
  | _, _, .cons h k, l, e, hi => by
    cases l with
    | nil => simp [T.renL] at e
    | cons x l =>
      simp only [T.renL, List.cons.injEq] at e
      simp only [T.idsL, Bool.and_eq_true] at hi
      exact .cons (VT.down hβ h e.1 hi.1) (VL.down hβ k e.2 hi.2)
end
structure Fits (ρ : Nat → Nat) (S0 S1 S S' : TS) : Prop where
  le : S0.n ≤ S1.n
  out : ∀ b, S0.n ≤ b → S0.box b = .gone
  old : ∀ i, i < S0.n → ρ i < S.n
  new : ∀ i, S0.n ≤ i → i < S1.n → S.n ≤ ρ i
  top : ∀ i, i < S1.n → ρ i < S'.n
  grow : S.n ≤ S'.n
  inj : ∀ i j, i < S1.n → j < S1.n → ρ i = ρ j → i = j
  pre : ∀ i, i < S0.n → S.box (ρ i) = renBox ρ (S0.box i) ∧ boxIds S0.n (S0.box i) = true
  post : ∀ i, i < S1.n → S'.box (ρ i) = renBox ρ (S1.box i) ∧ boxIds S1.n (S1.box i) = true
  rest : ∀ b, (∀ i, i < S1.n → ρ i ≠ b) → S'.box b = S.box b
open Classical in
noncomputable def bmix (ρ : Nat → Nat) (m : Nat) (β1 β : Bx) : Bx := fun b => if h : ∃ i, i < m ∧ ρ i = b then β1 (Classical.choose h) else β b
theorem bmix_in {m i : Nat} (hinj : ∀ i j, i < m → j < m → ρ i = ρ j → i = j) (hi : i < m) : bmix ρ m β1 β (ρ i) = β1 i := by
  unfold bmix
  have h : ∃ j, j < m ∧ ρ j = ρ i := ⟨i, hi, rfl⟩
  rw [dif_pos h]
  have := Classical.choose_spec h
  rw [hinj _ _ this.1 hi this.2]
theorem bmix_out {m b : Nat} (h : ∀ i, i < m → ρ i ≠ b) : bmix ρ m β1 β b = β b := by
  unfold bmix
  rw [dif_neg (fun ⟨i, h1, h2⟩ => h i h1 h2)]
theorem rmap_fst (l : List (T × T)) : (l.map fun p => (p.1.ren ρ, p.2.ren ρ)).map (·.1) = T.renL ρ (l.map (·.1)) := by
  rw [renL_map, List.map_map, List.map_map]; rfl
theorem rmap_snd (l : List (T × T)) : (l.map fun p => (p.1.ren ρ, p.2.ren ρ)).map (·.2) = T.renL ρ (l.map (·.2)) := by
  rw [renL_map, List.map_map, List.map_map]; rfl
theorem Call.frame {f : FuncId} {args : List T} {v : T} (k : Call P Γ GL f args S0 v S1) (ha : T.idsL S0.n args = true) (hv : v.ids S1.n = true) (F : Fits ρ S0 S1 S S') : Call P Γ GL f (T.renL ρ args) S (v.ren ρ) S' := by
  intro A β s vargs hT hva
  have hb0 : ∀ b, b < S0.n → bcut (fun i => β (ρ i)) S0.n b = β (ρ b) := fun b hb => if_pos hb
  have hb1 : ∀ b l, bcut (fun i => β (ρ i)) S0.n b = some l → b < S0.n ∧ β (ρ b) = some l := fun b l h => by
    unfold bcut at h
    split at h
    · rename_i hb; exact ⟨hb, h⟩
    · simp at h
  have hown : ∀ f, Own (bcut (fun i => β (ρ i)) S0.n) f → ∃ i, i < S0.n ∧ ((∃ u N, β (ρ i) = some (.live f u N)) ∨ β (ρ i) = some (.map f)) := fun f ⟨b, hb⟩ => by
    rcases hb with ⟨u, N, hb⟩ | hb
    · exact ⟨b, (hb1 _ _ hb).1, .inl ⟨u, N, (hb1 _ _ hb).2⟩⟩
    · exact ⟨b, (hb1 _ _ hb).1, .inr (hb1 _ _ hb).2⟩
  have hown2 : ∀ f, Own (bcut (fun i => β (ρ i)) S0.n) f → Own β f := fun f hf => by
    obtain ⟨i, _, h⟩ := hown f hf
    exact ⟨ρ i, h⟩
  have hT0 : TRel GL A (bcut (fun i => β (ρ i)) S0.n) S0 s := by
    refine ⟨hT.inr, hT.inv, hT.alt, fun f hf => hT.dis f (hown2 f hf), fun b b' l l' f h1 h2 h3 h4 => ?_, fun b hb => if_neg (by omega), fun b z N l hb => ?_, fun b l hb => ?_, hT.glob⟩
    · obtain ⟨q1, q2⟩ := hb1 _ _ h1
      obtain ⟨q3, q4⟩ := hb1 _ _ h2
      exact F.inj b b' (by have := F.le; omega) (by have := F.le; omega) (hT.inj _ _ _ _ f q2 q4 h3 h4)
    · have hlt : b < S0.n := by
        by_cases h : b < S0.n
        · exact h
        · rw [F.out b (by omega)] at hb; simp at hb
      obtain ⟨p1, p2⟩ := F.pre b hlt
      rw [hb] at p1 p2
      obtain ⟨c1, c2⟩ := hT.cells _ _ _ _ p1
      refine ⟨by rw [renL_len] at c1; exact c1, ?_⟩
      rcases c2 with ⟨d1, d2, d3⟩ | ⟨f, u, cs, rest, d1, d2, d3, d4, d5⟩
      · exact .inl ⟨by rw [hb0 b hlt]; exact d1, d2, d3⟩
      · exact .inr ⟨f, u, cs, rest, by rw [hb0 b hlt]; exact d1, d2, d3, VL.down hb0 d4 rfl p2, d5⟩
    · have hlt : b < S0.n := by
        by_cases h : b < S0.n
        · exact h
        · rw [F.out b (by omega)] at hb; simp at hb
      obtain ⟨p1, p2⟩ := F.pre b hlt
      rw [hb] at p1 p2
      obtain ⟨r, es, c1, c2, c3, c4⟩ := hT.maps _ _ p1
      simp only [boxIds, Bool.and_eq_true] at p2
      rw [rmap_fst] at c3
      rw [rmap_snd] at c4
      exact ⟨r, es, by rw [hb0 b hlt]; exact c1, c2, VL.down hb0 c3 rfl p2.1, VL.down hb0 c4 rfl p2.2⟩
  obtain ⟨w, s1, A1, β1, e1, e2, e3, e4⟩ := k A _ s vargs hT0 (VL.down hb0 hva rfl ha)
  have hin : ∀ i, i < S1.n → bmix ρ S1.n β1 β (ρ i) = β1 i := fun i hi => bmix_in F.inj hi
  have hcase : ∀ b, (∃ i, i < S1.n ∧ ρ i = b) ∨ (∀ i, i < S1.n → ρ i ≠ b) := fun b => by
    by_cases h : ∃ i, i < S1.n ∧ ρ i = b
    · exact .inl h
    · exact .inr fun i hi hh => h ⟨i, hi, hh⟩
  have hone : ∀ i l, β1 i = some l → i < S1.n := fun i l h => by
    by_cases hh : i < S1.n
    · exact hh
    · rw [e2.next i (by omega)] at h; simp at h
  have apart : ∀ b f, (∀ i, i < S1.n → ρ i ≠ b) → ((∃ u N, β b = some (.live f u N)) ∨ β b = some (.map f)) → ¬ Own (bcut (fun i => β (ρ i)) S0.n) f := fun b f hb hf ho => by
    obtain ⟨j, hj, h⟩ := hown f ho
    have : ρ j = b := by
      rcases h with ⟨u, N, h⟩ | h <;> rcases hf with ⟨u', N', hf⟩ | hf <;> exact hT.inj _ _ _ _ f h hf rfl rfl
    exact hb j (by have := F.le; omega) this
  have hfamO : ∀ b l f, β b = some l → l.fam = some f → ((∃ u N, β b = some (.live f u N)) ∨ β b = some (.map f)) := fun b l f h hl => by
    cases l with
    | live f' u N => simp [Loc.fam] at hl; subst hl; exact .inl ⟨u, N, h⟩
    | map r => simp [Loc.fam] at hl; subst hl; exact .inr h
    | nil => simp [Loc.fam] at hl
    | dead => simp [Loc.fam] at hl
  have hfam1 : ∀ i l f, β1 i = some l → l.fam = some f → Own β1 f := fun i l f h hl => by
    cases l with
    | live f' u N => simp [Loc.fam] at hl; subst hl; exact own_live h
    | map r => simp [Loc.fam] at hl; subst hl; exact own_map h
    | nil => simp [Loc.fam] at hl
    | dead => simp [Loc.fam] at hl
  have hle : Bx.le β (bmix ρ S1.n β1 β) := fun b l hb => by
    rcases hcase b with ⟨i, hi, rfl⟩ | h
    · rw [hin i hi]
      by_cases hip : i < S0.n
      · exact e4.bx i l (by rw [hb0 i hip]; exact hb)
      · rw [hT.next _ (F.new i (by omega) hi)] at hb; simp at hb
    · exact ⟨l, by rw [bmix_out h]; exact hb, Loc.le_refl l⟩
  have hkeep : ∀ f, A f → objAt s1.obj f = objAt s.obj f := fun f hf => e4.keep f (hT.alt f hf) fun ho => (hT.dis f (hown2 f ho)).2 hf
  have hmix : ∀ f, Own (bmix ρ S1.n β1 β) f → Own β1 f ∨ ∃ b, (∀ i, i < S1.n → ρ i ≠ b) ∧ ((∃ u N, β b = some (.live f u N)) ∨ β b = some (.map f)) := fun f ⟨b, hb⟩ => by
    rcases hcase b with ⟨i, hi, rfl⟩ | h
    · rw [hin i hi] at hb; exact .inl ⟨i, hb⟩
    · rw [bmix_out h] at hb; exact .inr ⟨b, h, hb⟩
  refine ⟨w, s1, A1, bmix ρ S1.n β1 β, e1, ⟨e2.inr, e2.inv, e2.alt, fun f hf => ?_, fun b b' l l' f h1 h2 h3 h4 => ?_, fun b hb => ?_, fun b z N l hb => ?_, fun b l hb => ?_, e2.glob⟩, VT.up hin hv e3, ⟨e4.can, e4.sub, fun f hf => (e4.new f hf).imp id (Or.imp id (hown2 f)), fun f hf => ?_, fun f hf ho => e4.keep f hf fun h => ho (hown2 f h), hle, fun x hx => (e4.rd x hx).imp id (fun ⟨a, b⟩ => ⟨a, b.imp id (hown2 x)⟩), fun x hx => (e4.wr x hx).imp id (fun ⟨a, b⟩ => ⟨a, hown2 x b⟩)⟩⟩
  · rcases hmix f hf with h | ⟨b, hb, h⟩
    · exact e2.dis f h
    · have hd := hT.dis f ⟨b, h⟩
      refine ⟨Nat.lt_of_lt_of_le hd.1 e4.can.n, fun hA => ?_⟩
      rcases e4.new f hA with q | q | q
      · exact hd.2 q
      · have := hd.1; omega
      · exact apart b f hb h q
  · have mixed : ∀ i b l l', i < S1.n → (∀ i, i < S1.n → ρ i ≠ b) → β1 i = some l → β b = some l' → l.fam = some f → l'.fam = some f → False := fun i b l l' hi hb q1 q2 q3 q4 => by
      have ho := hfamO b l' f q2 q4
      rcases e4.own f (hfam1 i l f q1 q3) with q | q
      · exact apart b f hb ho q
      · have := (hT.dis f ⟨b, ho⟩).1; omega
    rcases hcase b with ⟨i, hi, rfl⟩ | hb <;> rcases hcase b' with ⟨j, hj, rfl⟩ | hb'
    · rw [hin i hi] at h1
      rw [hin j hj] at h2
      rw [e2.inj i j l l' f h1 h2 h3 h4]
    · rw [hin i hi] at h1
      rw [bmix_out hb'] at h2
      exact (mixed i b' l l' hi hb' h1 h2 h3 h4).elim
    · rw [bmix_out hb] at h1
      rw [hin j hj] at h2
      exact (mixed j b l' l hj hb h2 h1 h4 h3).elim
    · rw [bmix_out hb] at h1
      rw [bmix_out hb'] at h2
      exact hT.inj b b' l l' f h1 h2 h3 h4
  · rw [bmix_out (fun i hi hh => by have := F.top i hi; omega)]
    exact hT.next b (by have := F.grow; omega)
  · rcases hcase b with ⟨i, hi, rfl⟩ | hbo
    · obtain ⟨p1, p2⟩ := F.post i hi
      rw [hb] at p1
      cases hq : S1.box i with
      | gone => rw [hq] at p1; simp [renBox] at p1
      | map m => rw [hq] at p1; simp [renBox] at p1
      | cells z' N' l' =>
        rw [hq] at p1 p2
        simp only [renBox, Box.cells.injEq] at p1
        obtain ⟨rfl, rfl, rfl⟩ := p1
        obtain ⟨c1, c2⟩ := e2.cells _ _ _ _ hq
        refine ⟨by rw [renL_len]; exact c1, ?_⟩
        rcases c2 with ⟨d1, d2, d3⟩ | ⟨f, u, cs, rest, d1, d2, d3, d4, d5⟩
        · exact .inl ⟨by rw [hin i hi]; exact d1, d2, d3⟩
        · exact .inr ⟨f, u, cs, rest, by rw [hin i hi]; exact d1, d2, d3, VL.up hin p2 d4, d5⟩
    · rw [F.rest b hbo] at hb
      refine (hT.cells b z N l hb).mono e4.sub hkeep hle (bmix_out hbo) fun f u N' hl => ?_
      exact e4.keep f (hT.dis f (own_live hl)).1 (apart b f hbo (.inl ⟨u, N', hl⟩))
  · rcases hcase b with ⟨i, hi, rfl⟩ | hbo
    · obtain ⟨p1, p2⟩ := F.post i hi
      rw [hb] at p1
      cases hq : S1.box i with
      | gone => rw [hq] at p1; simp [renBox] at p1
      | cells z N m => rw [hq] at p1; simp [renBox] at p1
      | map m =>
        rw [hq] at p1 p2
        simp only [renBox, Box.map.injEq] at p1
        subst p1
        obtain ⟨r, es, c1, c2, c3, c4⟩ := e2.maps _ _ hq
        simp only [boxIds, Bool.and_eq_true] at p2
        exact ⟨r, es, by rw [hin i hi]; exact c1, c2, by rw [rmap_fst]; exact VL.up hin p2.1 c3, by rw [rmap_snd]; exact VL.up hin p2.2 c4⟩
    · rw [F.rest b hbo] at hb
      refine (hT.maps b l hb).mono e4.sub hkeep hle (bmix_out hbo) fun r hl => ?_
      exact e4.keep r (hT.dis r (own_map hl)).1 (apart b r hbo (.inr hl))
  · rcases hmix f hf with h | ⟨b, hb, h⟩
    · exact (e4.own f h).imp (hown2 f) id
    · exact .inl ⟨b, h⟩
end
end Go.Proofs.Ytfalnphlgfoflaa
