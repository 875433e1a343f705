/- The plain machine, eighteenth part: a region whose order Go leaves open: whatever the order, the same is reached. No program in sight. -/
import Derived.Test.YtcmfoipnoejmlaaDoorCm17
namespace Go.Proofs.YtcmfoipnoejmlaaDoor
open Go Go.RowKit
section
variable {P : Program} {Γ : Env} {call : CallC} {G : List Nat}

/-- what a region's look and run say, in one place -/
structure Calm (P : Program) (Γ : Env) (G : List Nat) (call : CallC) (l : List Oper) (logs : List Lg) (F : Nat → Fr) (S T : Nat → CS) : Prop where
  step : ∀ (i : Nat) (o : Oper), l[i]? = some o → stepC P Γ call l o (F i) (S i).inner = some (F (i + 1), T i) ∧ S (i + 1) = (S i).outer (T i)
  inv : ∀ i, i ≤ l.length → CInv (S i)
  can : ∀ i, i < l.length → Can (S i).inner (T i)
  oper : ∀ (i : Nat) (o : Oper), l[i]? = some o → operOk G (F 0).nt o = true
  edge : ∀ (i : Nat) (o : Oper), l[i]? = some o → ∀ e, e ∈ o.after.toList → Region.binds .any e = true → e.on < i
  touch : ∀ (i j : Nat) (x y : Oper), i < j → l[i]? = some x → l[j]? = some y → Nat.testBit (nth 0 (masks l []) j) i = true ∨ touchy l x y = false
  clash : ∀ (i j : Nat), i < j → j < l.length → Nat.testBit (nth 0 (masks l []) j) i = true ∨
    ((∀ f, f ∈ (T i).wr → f ∉ (T j).rd ∧ f ∉ (T j).wr) ∧ (∀ f, f ∈ (T i).rd → f ∉ (T j).wr) ∧ (∀ f, (f ∈ (T j).rd ∨ f ∈ (T j).wr) → ¬ ((S i).n ≤ f ∧ f < (T i).n)))
variable {l : List Oper} {logs : List Lg} {F : Nat → Fr} {S T : Nat → CS}
theorem Calm.next (c : Calm P Γ G call l logs F S T) {i : Nat} (hi : i < l.length) : S (i + 1) = (S i).outer (T i) := (c.step i _ (List.getElem?_eq_getElem hi)).2
theorem Calm.n_next (c : Calm P Γ G call l logs F S T) {i : Nat} (hi : i < l.length) : (S (i + 1)).n = (T i).n := by rw [c.next hi]; rfl
theorem Calm.obj_next (c : Calm P Γ G call l logs F S T) {i : Nat} (hi : i < l.length) : (S (i + 1)).obj = (T i).obj := by rw [c.next hi]; rfl
theorem Calm.can' (c : Calm P Γ G call l logs F S T) {i : Nat} (hi : i < l.length) : Can (S i) (S (i + 1)) := by rw [c.next hi]; exact outer_can (c.inv i (by omega)) (c.can i hi)
theorem Calm.cans (c : Calm P Γ G call l logs F S T) : ∀ {i j : Nat}, i ≤ j → j ≤ l.length → Can (S i) (S j) := by
  intro i j hij
  induction j with
  | zero => intro _; have : i = 0 := by omega
            subst this; exact Can.refl _
  | succ j ih =>
    intro hj
    by_cases h : i = j + 1
    · subst h; exact Can.refl _
    · exact (ih (by omega) (by omega)).trans (c.can' (by omega))
theorem Calm.n_mono (c : Calm P Γ G call l logs F S T) {i j : Nat} (hij : i ≤ j) (hj : j ≤ l.length) : (S i).n ≤ (S j).n := (c.cans hij hj).n
theorem Calm.nt (c : Calm P Γ G call l logs F S T) : ∀ i, i ≤ l.length → (F i).nt = (F 0).nt := by
  intro i
  induction i with
  | zero => intro _; rfl
  | succ i ih =>
    intro hi
    have h := (c.step i _ (List.getElem?_eq_getElem (show i < l.length by omega))).1
    unfold stepC at h
    have hput : ∀ v, (putC (F i) (l[i]'(by omega)).dst v).nt = (F i).nt := by
      intro v
      cases (l[i]'(by omega)).dst with
      | none => rfl
      | some t => exact Fr.put_nt _ _ _
    cases hw : wantedC l (F i) (l[i]'(by omega)) with
    | false => rw [hw] at h; simp only [cond_false, Option.some.injEq, Prod.mk.injEq] at h; rw [← h.1, hput]; exact ih (by omega)
    | true =>
      rw [hw] at h
      simp only [cond_true] at h
      split at h
      · simp only [Option.some.injEq, Prod.mk.injEq] at h; rw [← h.1, hput]; exact ih (by omega)
      · simp at h
/-- slots that an operation does not set -/
theorem Calm.slot_next (c : Calm P Γ G call l logs F S T) (h5 : (F 0).nt ≤ 512) {i : Nat} {o : Oper} (ho : l[i]? = some o) {t : Nat} (ht : o.dst ≠ some t) : (F (i + 1)).get t = (F i).get t := by
  have hi := (List.getElem?_eq_some_iff.1 ho).1
  have h := (c.step i o ho).1
  have h5' : (F i).nt ≤ 512 := by rw [c.nt i (by omega)]; exact h5
  have hput : ∀ v, (putC (F i) o.dst v).get t = (F i).get t := by
    intro v
    cases hd : o.dst with
    | none => rfl
    | some d =>
      refine Fr.get_put_other _ h5' ?_
      rintro rfl
      exact ht hd
  unfold stepC at h
  cases hw : wantedC l (F i) o with
  | false => rw [hw] at h; simp only [cond_false, Option.some.injEq, Prod.mk.injEq] at h; rw [← h.1]; exact hput _
  | true =>
    rw [hw] at h
    simp only [cond_true] at h
    split at h
    · simp only [Option.some.injEq, Prod.mk.injEq] at h; rw [← h.1]; exact hput _
    · simp at h
theorem Calm.slot_keep (c : Calm P Γ G call l logs F S T) (h5 : (F 0).nt ≤ 512) {t : Nat} : ∀ {p q : Nat}, p ≤ q → q ≤ l.length → (∀ (k : Nat) (o : Oper), p ≤ k → k < q → l[k]? = some o → o.dst ≠ some t) → (F q).get t = (F p).get t := by
  intro p q hpq
  induction q with
  | zero => intro _ _; have : p = 0 := by omega
            subst this; rfl
  | succ q ih =>
    intro hq hk
    by_cases h : p = q + 1
    · subst h; rfl
    · have ho : l[q]? = some l[q] := List.getElem?_eq_getElem (by omega)
      rw [c.slot_next h5 ho (hk q _ (by omega) (by omega) ho)]
      exact ih (by omega) (by omega) fun k o h1 h2 h3 => hk k o h1 (by omega) h3
/-- family f is set, or made, by operation i -/
def Sets (S T : Nat → CS) (i f : Nat) : Prop := f ∈ (T i).wr ∨ ((S i).n ≤ f ∧ f < (S (i + 1)).n)
theorem Calm.obj_same (c : Calm P Γ G call l logs F S T) {i : Nat} (hi : i < l.length) {f : Nat} (hf : ¬ Sets S T i f) : objAt (S (i + 1)).obj f = objAt (S i).obj f := by
  rw [c.obj_next hi]
  have hc := c.can i hi
  by_cases hn : f < (S i).n
  · exact hc.same f hn hn fun k => hf (.inl k)
  · have h2 : ¬ f < (S (i + 1)).n := fun k => hf (.inr ⟨by omega, k⟩)
    rw [c.n_next hi] at h2
    rw [hc.none (inner_inv (c.inv i (by omega))).none f (by omega), (c.inv i (by omega)).none f (by omega)]
theorem Calm.obj_keep (c : Calm P Γ G call l logs F S T) {f : Nat} : ∀ {p q : Nat}, p ≤ q → q ≤ l.length → (∀ k, p ≤ k → k < q → ¬ Sets S T k f) → objAt (S q).obj f = objAt (S p).obj f := by
  intro p q hpq
  induction q with
  | zero => intro _ _; have : p = 0 := by omega
            subst this; rfl
  | succ q ih =>
    intro hq hk
    by_cases h : p = q + 1
    · subst h; rfl
    · rw [c.obj_same (by omega) (hk q (by omega) (by omega))]
      exact ih (by omega) (by omega) fun k h1 h2 => hk k h1 (by omega)
def On (E : Array Bool) (i : Nat) : Prop := E.getD i false = true
/-- between two operations of a region, in whatever order: those of E have been done -/
structure DInv (V : Nat → Prop) (l : List Oper) (F : Nat → Fr) (S T : Nat → CS) (σ0 : Sg) (w0 : World) (a0 : Act) (E : Array Bool) (σ : Sg) (a : Act) (w : World) : Prop where
  ext : Ext σ0 V (S 0) w0 σ (S l.length) w
  inj : ∀ f u b o z f' u' o' z', σ f u = some (b, o, z) → σ f' u' = some (b, o', z') → f = f'
  lt : ∀ f u b o z, σ f u = some (b, o, z) → b < w.heap.size
  new : ∀ f u, σ0 f u = none → σ f u ≠ none → ∃ i, i < l.length ∧ On E i ∧ (S i).n ≤ u / 1024 ∧ u / 1024 < (S (i + 1)).n ∧ f < (S (i + 1)).n ∧ ((S i).n ≤ f ∨ f ∈ (T i).rd ∨ f ∈ (T i).wr)
  slots0 : ∀ t, (∀ (i : Nat) (o : Oper), On E i → l[i]? = some o → o.dst ≠ some t) → VR σ ((F 0).get t) (a.tmps.getD t undef)
  slots : ∀ (t i : Nat) (o : Oper), On E i → l[i]? = some o → o.dst = some t → (∀ (j : Nat) (oj : Oper), On E j → l[j]? = some oj → oj.dst = some t → j ≤ i) → VR σ ((F (i + 1)).get t) (a.tmps.getD t undef)
  fam0 : ∀ f, V f → (∀ i, i < l.length → On E i → ¬ Sets S T i f) → FamAt σ w f (objAt (S 0).obj f)
  fam : ∀ f i, V f → i < l.length → On E i → Sets S T i f → (∀ j, j < l.length → On E j → Sets S T j f → j ≤ i) → FamAt σ w f (objAt (S (i + 1)).obj f)
  asize : a.tmps.size = (F 0).nt
  defers : a.defers = a0.defers
  down : ∀ (j : Nat) (o : Oper), On E j → l[j]? = some o → ∀ e, e ∈ o.after.toList → Region.binds .any e = true → On E e.on
  size : E.size = l.length
end
end Go.Proofs.YtcmfoipnoejmlaaDoor
