/- The plain machine, twenty-first part: a function that gives true in the plain machine gives true in the model, from whatever world. No program in sight. -/
import Derived.Test.YtcmfoipnoejmlaaDoorCm20
import Derived.LoopN
namespace Go.Proofs.YtcmfoipnoejmlaaDoor
open Go Go.RowKit
section
variable {P : Program} {Γ : Env} {G : List Nat}

theorem putC_nt (fr : Fr) (d : Option Tmp) (v : Value) : (putC fr d v).nt = fr.nt := by
  cases d with
  | none => rfl
  | some t => exact Fr.put_nt _ _ _
theorem stepC_nt {call : CallC} {ops : List Oper} {o : Oper} {fr fr' : Fr} {s s' : CS} (h : stepC P Γ call ops o fr s = some (fr', s')) : fr'.nt = fr.nt := by
  unfold stepC at h
  cases hw : wantedC ops fr o with
  | false => rw [hw] at h; simp only [cond_false, Option.some.injEq, Prod.mk.injEq] at h; rw [← h.1, putC_nt]
  | true =>
    rw [hw] at h
    simp only [cond_true] at h
    split at h
    · simp only [Option.some.injEq, Prod.mk.injEq] at h; rw [← h.1, putC_nt]
    · simp at h
theorem runC_nt {call : CallC} {ops : List Oper} : ∀ {l : List Oper} {fr fr' : Fr} {s s' : CS}, runC P Γ call ops l fr s = some (fr', s') → fr'.nt = fr.nt
  | [], fr, fr', s, s', h => by simp only [runC, Option.some.injEq, Prod.mk.injEq] at h; rw [← h.1]
  | o :: l, fr, fr', s, s', h => by
    simp only [runC] at h
    split at h
    · rename_i h1
      rw [runC_nt h, stepC_nt h1]
    · simp at h
theorem drawC_nt {call : CallC} {ops : List Oper} : ∀ {l : List Oper} {fr fr' : Fr} {s s' : CS} {logs : List Lg}, drawC P Γ call ops l fr s = some (logs, fr', s') → fr'.nt = fr.nt
  | [], fr, fr', s, s', logs, h => by simp only [drawC, Option.some.injEq, Prod.mk.injEq] at h; rw [← h.2.1]
  | o :: l, fr, fr', s, s', logs, h => by
    simp only [drawC] at h
    split at h
    · rename_i h1
      split at h
      · rename_i h2
        simp only [Option.some.injEq, Prod.mk.injEq] at h
        rw [← h.2.1, drawC_nt h2, stepC_nt h1]
      · simp at h
    · simp at h
theorem draw_can {call : CallC} (hc : CallCan call) {ops : List Oper} : ∀ {l : List Oper} {fr fr' : Fr} {s s' : CS} {logs : List Lg}, CInv s → drawC P Γ call ops l fr s = some (logs, fr', s') → Can s s'
  | [], fr, fr', s, s', logs, hI, h => by simp only [drawC, Option.some.injEq, Prod.mk.injEq] at h; rw [← h.2.2]; exact Can.refl _
  | o :: l, fr, fr', s, s', logs, hI, h => by
    simp only [drawC] at h
    split at h
    · rename_i h1
      split at h
      · rename_i h2
        simp only [Option.some.injEq, Prod.mk.injEq] at h
        have c1 := outer_can hI (stepC_can hc (inner_inv hI) h1)
        rw [← h.2.2]
        exact c1.trans (draw_can hc (hI.next c1) h2)
      · simp at h
    · simp at h
theorem resC_can {fr : Fr} : ∀ {l : List ResultVar} {s s' : CS} {vs : List Value}, resC Γ fr s l = some (vs, s') → Can s s'
  | [], s, s', vs, h => by simp only [resC, Option.some.injEq, Prod.mk.injEq] at h; rw [← h.2]; exact Can.refl _
  | .tmp t :: l, s, s', vs, h => by
    simp only [resC] at h
    split at h
    · rename_i h1
      simp only [Option.some.injEq, Prod.mk.injEq] at h
      rw [← h.2]
      exact resC_can h1
    · simp at h
  | .cell a t :: l, s, s', vs, h => by
    simp only [resC] at h
    split at h
    · split at h
      · rename_i h1
        split at h
        · rename_i h2
          simp only [Option.some.injEq, Prod.mk.injEq] at h
          rw [← h.2]
          exact (loadVar_can h1).trans (resC_can h2)
        · simp at h
      · simp at h
    · simp at h
/-- the exits that the plain machine knows -/
def Exit.known : Exit → Prop
  | .normal => True
  | .exit _ => True
  | .ret => True
  | _ => False
theorem cm_facts (hA : CallCan (axC Γ)) : ∀ (n : Nat), (∀ c fr s e fr' s', cm P Γ n c fr s = some (e, fr', s') → fr'.nt = fr.nt ∧ Exit.known e ∧ (CInv s → Can s s')) ∧ CallCan (callC P Γ n) := by
  intro n
  induction n with
  | zero =>
    refine ⟨fun c fr s e fr' s' h => by simp [cm] at h, ?_⟩
    intro f args s v s' h hI
    unfold callC at h
    split at h
    · rename_i hx hax
      exact hA f args s v s' (by unfold axC; rw [hax]; exact h) hI
    split at h
    · split at h
      · simp only [cm, sel_eq] at h
        split at h
        · rename_i hq; split at hq <;> simp at hq
        · rename_i hq; split at hq <;> simp at hq
        · simp at h
      · simp at h
    · simp at h
  | succ n ih =>
    obtain ⟨ih1, ih2⟩ := ih
    have hcode : ∀ c fr s e fr' s', cm P Γ (n + 1) c fr s = some (e, fr', s') → fr'.nt = fr.nt ∧ Exit.known e ∧ (CInv s → Can s s') := by
      intro c fr s e fr' s' h
      cases c with
      | skip => simp only [cm, Option.some.injEq, Prod.mk.injEq] at h; obtain ⟨rfl, rfl, rfl⟩ := h; exact ⟨rfl, trivial, fun _ => Can.refl _⟩
      | label lb => simp only [cm, Option.some.injEq, Prod.mk.injEq] at h; obtain ⟨rfl, rfl, rfl⟩ := h; exact ⟨rfl, trivial, fun _ => Can.refl _⟩
      | exit id => simp only [cm, Option.some.injEq, Prod.mk.injEq] at h; obtain ⟨rfl, rfl, rfl⟩ := h; exact ⟨rfl, trivial, fun _ => Can.refl _⟩
      | ret => simp only [cm, Option.some.injEq, Prod.mk.injEq] at h; obtain ⟨rfl, rfl, rfl⟩ := h; exact ⟨rfl, trivial, fun _ => Can.refl _⟩
      | region id ops draw =>
        have h' : (bif draw then match drawC P Γ (callC P Γ n) ops.toList ops.toList fr s with
            | some (logs, fr, t) => bif calm s.n ops.toList logs then some (Exit.normal, fr, t) else none
            | none => none
          else match runC P Γ (callC P Γ n) ops.toList ops.toList fr s with
            | some (fr, s) => some (Exit.normal, fr, s)
            | none => none) = some (e, fr', s') := h
        cases draw with
        | true =>
          simp only [cond_true] at h'
          split at h'
          · rename_i hd
            obtain ⟨_, h'⟩ := cond_some h'
            simp only [Option.some.injEq, Prod.mk.injEq] at h'
            obtain ⟨rfl, rfl, rfl⟩ := h'
            exact ⟨drawC_nt hd, trivial, fun hI => draw_can ih2 hI hd⟩
          · simp at h'
        | false =>
          simp only [cond_false] at h'
          split at h'
          · rename_i hd
            simp only [Option.some.injEq, Prod.mk.injEq] at h'
            obtain ⟨rfl, rfl, rfl⟩ := h'
            exact ⟨runC_nt hd, trivial, fun hI => run_can ih2 hI hd⟩
          · simp at h'
      | seq a b =>
        simp only [cm] at h
        split at h
        · rename_i h1
          obtain ⟨q1, q2, q3⟩ := ih1 _ _ _ _ _ _ h1
          obtain ⟨r1, r2, r3⟩ := ih1 _ _ _ _ _ _ h
          exact ⟨by rw [r1, q1], r2, fun hI => (q3 hI).trans (r3 (hI.next (q3 hI)))⟩
        · exact ih1 _ _ _ _ _ _ h
      | cond c t e' =>
        simp only [cm] at h
        split at h
        · exact ih1 _ _ _ _ _ _ h
        · simp at h
      | block id b =>
        simp only [cm] at h
        split at h
        · rename_i h1
          simp only [Option.some.injEq, Prod.mk.injEq] at h
          obtain ⟨rfl, rfl, rfl⟩ := h
          obtain ⟨q1, q2, q3⟩ := ih1 _ _ _ _ _ _ h1
          refine ⟨q1, ?_, q3⟩
          have hk : ∀ x : Bool, ∀ i : Nat, Exit.known (bif x then Exit.normal else Exit.exit i) := fun x i => by cases x <;> trivial
          exact hk _ _
        · exact ih1 _ _ _ _ _ _ h
      | loop b =>
        simp only [cm] at h
        split at h
        · rename_i h1
          obtain ⟨q1, q2, q3⟩ := ih1 _ _ _ _ _ _ h1
          obtain ⟨r1, r2, r3⟩ := ih1 _ _ _ _ _ _ h
          exact ⟨by rw [r1, q1], r2, fun hI => (q3 hI).trans (r3 (hI.next (q3 hI)))⟩
        · exact ih1 _ _ _ _ _ _ h
      | scope b => simp only [cm] at h; exact ih1 _ _ _ _ _ _ h
      | rangeFunc f ps a b => simp [cm] at h
      | goto lb => simp [cm] at h
      | refuse why => simp [cm] at h
    refine ⟨hcode, ?_⟩
    intro f args s v s' h hI
    unfold callC at h
    split at h
    · rename_i hx hax
      exact hA f args s v s' (by unfold axC; rw [hax]; exact h) hI
    split at h
    · split at h
      · split at h
        · rename_i h1
          obtain ⟨_, h1⟩ := sel_some h1
          split at h
          · rename_i h2
            simp only [Option.some.injEq, Prod.mk.injEq] at h
            have c1 := (hcode _ _ _ _ _ _ h1).2.2 hI
            rw [← h.2]
            exact c1.trans (resC_can h2)
          · simp at h
        · rename_i h1
          obtain ⟨_, h1⟩ := sel_some h1
          split at h
          · rename_i h2
            simp only [Option.some.injEq, Prod.mk.injEq] at h
            have c1 := (hcode _ _ _ _ _ _ h1).2.2 hI
            rw [← h.2]
            exact c1.trans (resC_can h2)
          · simp at h
        · simp at h
      · simp at h
    · simp at h

/-- results -/
def resRun (tmps : Array Value) : ResultVar → Sem Value
  | .tmp t => pure (tmps.getD t undef)
  | .cell a t => do loadVar t (← asAddr (tmps.getD a undef))
theorem res_run (hE : EnvOk P Γ) {σ : Sg} {V : Nat → Prop} {w : World} {fr : Fr} {a : Act} (hfr : FrR σ fr a) : ∀ {l : List ResultVar} {s s' : CS} {vs : List Value}, Rel σ V s w → Covers V s' → CInv s → Fresh σ s.n s'.n → resC Γ fr s l = some (vs, s') →
    ∃ vs', (l.mapM (resRun a.tmps)).run P w = .ok vs' w ∧ RL (VR σ) vs vs' ∧ Rel σ V s' w ∧ Ext σ V s w σ s' w
  | [], s, s', vs, hr, hV, hI, hF, h => by
    simp only [resC, Option.some.injEq, Prod.mk.injEq] at h
    obtain ⟨rfl, rfl⟩ := h
    exact ⟨[], by simp, trivial, hr, Ext.refl _ _ _ _⟩
  | .tmp t :: l, s, s', vs, hr, hV, hI, hF, h => by
    simp only [resC] at h
    split at h
    · rename_i vs1 s1 h1
      simp only [Option.some.injEq, Prod.mk.injEq] at h
      obtain ⟨rfl, rfl⟩ := h
      obtain ⟨vs', e1, e2, e3, e4⟩ := res_run hE hfr hr hV hI hF h1
      refine ⟨a.tmps.getD t undef :: vs', ?_, ⟨hfr.val t, e2⟩, e3, e4⟩
      simp [List.mapM_cons, resRun, e1]
    · simp at h
  | .cell q t :: l, s, s', vs, hr, hV, hI, hF, h => by
    simp only [resC] at h
    split at h
    · rename_i ad i hq hi
      split at h
      · rename_i v1 s1 h1
        split at h
        · rename_i vs1 s2 h2
          simp only [Option.some.injEq, Prod.mk.injEq] at h
          obtain ⟨rfl, rfl⟩ := h
          have c2 := resC_can h2
          have c1 := loadVar_can h1
          have hv := hfr.val q
          rw [hq] at hv
          obtain ⟨b, o, z, hσ, he⟩ := hv.ptr
          obtain ⟨v', f1, f2, f3, f4⟩ := loadVar_run hE hr hi h1 (hV.back c2) hσ
          obtain ⟨vs', e1, e2, e3, e4⟩ := res_run hE hfr f3 hV (hI.next c1) (hF.mono c1.n (Nat.le_refl _)) h2
          refine ⟨v' :: vs', ?_, ⟨f2, e2⟩, e3, f4.trans e4 c1 c2 hF hr.none⟩
          simp only [List.mapM_cons, Sem.run_bind, resRun, he, asAddr, Sem.run_pure, Result.andThen_ok, f1, e1]
        · simp at h
      · simp at h
    · simp at h
theorem results_run (hE : EnvOk P Γ) {σ : Sg} {V : Nat → Prop} {w : World} {fr : Fr} {a : Act} (hfr : FrR σ fr a) {fn : Func} {s s' : CS} {vs : List Value} (hr : Rel σ V s w) (hV : Covers V s') (hI : CInv s) (hF : Fresh σ s.n s'.n) (h : resC Γ fr s fn.results.toList = some (vs, s')) :
    ∃ v', (results fn a.tmps).run P w = .ok v' w ∧ VR σ (tupC vs) v' ∧ Rel σ V s' w ∧ Ext σ V s w σ s' w := by
  obtain ⟨vs', e1, e2, e3, e4⟩ := res_run hE hfr hr hV hI hF h
  have hm : (results fn a.tmps) = (do let vs ← fn.results.mapM (resRun a.tmps); pure (if h : vs.size = 1 then vs[0] else .tuple vs)) := by
    unfold results
    congr 1
  have hrun : (fn.results.mapM (resRun a.tmps)).run P w = .ok vs'.toArray w := by
    rw [Array.mapM_eq_mapM_toList]
    simp [Sem.run_bind, e1]
  refine ⟨if h : vs'.toArray.size = 1 then vs'.toArray[0] else .tuple vs'.toArray, ?_, ?_, e3, e4⟩
  · rw [hm]
    simp only [Sem.run_bind, hrun, Result.andThen_ok, Sem.run_pure]
  · have hl := e2.length
    unfold tupC
    split
    · rename_i v
      cases vs' with
      | nil => simp at hl
      | cons v' r =>
        cases r with
        | nil => simp; exact e2.1
        | cons _ _ => simp at hl
    · rename_i hne
      rw [dif_neg]
      · exact VR.mk ⟨_, rfl, by simpa using e2⟩
      · intro h1
        simp at h1
        rw [← hl] at h1
        match vs, h1 with
        | [v], _ => exact hne v rfl
theorem ofArgs_nt : ∀ (l : List Value) (i : Nat) (fr : Fr), (Fr.ofArgs l i fr).nt = fr.nt
  | [], _, _ => rfl
  | v :: l, i, fr => by simp only [Fr.ofArgs]; rw [ofArgs_nt l (i + 1), Fr.put_nt]
theorem ofArgs_get : ∀ (l : List Value) (i : Nat) (fr : Fr), fr.nt ≤ 512 → i + l.length ≤ fr.nt → ∀ t, (Fr.ofArgs l i fr).get t = if i ≤ t ∧ t < i + l.length then l.getD (t - i) undef else fr.get t
  | [], i, fr, _, _, t => by rw [if_neg (by simp)]; rfl
  | v :: l, i, fr, h5, hl, t => by
    simp only [Fr.ofArgs]
    simp only [List.length_cons] at hl
    rw [ofArgs_get l (i + 1) (fr.put i v) (by rw [Fr.put_nt]; exact h5) (by rw [Fr.put_nt]; omega) t]
    by_cases h1 : t = i
    · subst h1
      rw [if_neg (by omega), if_pos (by simp), Fr.get_put_same v (by omega) h5]
      simp
    · rw [Fr.get_put_other v h5 (Ne.symm h1)]
      by_cases h2 : i + 1 ≤ t ∧ t < i + 1 + l.length
      · rw [if_pos h2, if_pos (by simp; omega)]
        rw [show t - i = (t - (i + 1)) + 1 by omega]
        simp
      · rw [if_neg h2, if_neg (by simp; omega)]
theorem enter_rel {σ : Sg} {args : List Value} {args' : Array Value} {nt : Nat} (h5 : nt ≤ 512) (hl : args.length ≤ nt) (hr : RL (VR σ) args args'.toList) : FrR σ (Fr.ofArgs args 0 ⟨nt, Tr.all undef 9⟩) { tmps := args' ++ Array.replicate (nt - args'.size) undef, defers := [] } := by
  have hlen : args.length = args'.size := by rw [hr.length, Array.length_toList]
  refine ⟨?_, by rw [ofArgs_nt]; exact h5, fun t => ?_⟩
  · rw [ofArgs_nt]
    simp
    omega
  · rw [ofArgs_get args 0 _ h5 (by simpa using hl) t]
    have hund : (⟨nt, Tr.all undef 9⟩ : Fr).get t = undef := by
      unfold Fr.get
      rw [sel_eq]
      split
      · exact Tr.get_all _ _ _
      · rfl
    by_cases h : t < args.length
    · rw [if_pos ⟨by omega, by omega⟩]
      obtain ⟨y, hy, hv⟩ := hr.at (List.getElem?_eq_getElem h)
      have e1 : args.getD (t - 0) undef = args[t] := by simp [h]
      rw [e1]
      have e2 : (args' ++ Array.replicate (nt - args'.size) undef).getD t undef = y := by
        rw [Array.getElem?_toList] at hy
        simp only [Array.getD_eq_getD_getElem?]
        rw [Array.getElem?_append_left (by omega), hy]
        rfl
      rw [e2]
      exact hv
    · rw [if_neg (by omega), hund]
      have e2 : (args' ++ Array.replicate (nt - args'.size) undef).getD t undef = undef := by
        simp only [Array.getD_eq_getD_getElem?]
        rw [Array.getElem?_append_right (by omega), Array.getElem?_replicate]
        split <;> rfl
      rw [e2]
      exact VR.undef
end
end Go.Proofs.YtcmfoipnoejmlaaDoor
