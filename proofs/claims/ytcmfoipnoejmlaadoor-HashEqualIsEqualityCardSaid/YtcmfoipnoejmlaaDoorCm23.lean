/- The plain machine by hand: rules to follow a function over unknown data. No program in sight. -/
import Derived.Test.YtcmfoipnoejmlaaDoorCm22
namespace Go.Proofs.YtcmfoipnoejmlaaDoor
open Go Go.RowKit
section
variable {P : Program} {Γ : Env}
def CallLe (c c' : CallC) : Prop := ∀ f args s r, c f args s = some r → c' f args s = some r
theorem cop_le {call call' : CallC} (h : CallLe call call') {ρ : Operand → Value} {o : Oper} {s : CS} {r : Value × CS} (hc : cop P Γ call ρ o s = some r) : cop P Γ call' ρ o s = some r := by
  obtain ⟨dst, op, type, pos, after, guard⟩ := o
  unfold cop at hc ⊢
  cases op with
  | call c =>
    simp only at hc ⊢
    split at hc
    · rename_i f hf
      unfold opCall at hc ⊢
      split at hc
      · exact h _ _ _ _ hc
      · simp at hc
    · exact hc
    · simp at hc
  | makeMap t r => cases r <;> exact hc
  | _ => exact hc
theorem stepC_le {call call' : CallC} (h : CallLe call call') {ops : List Oper} {o : Oper} {fr : Fr} {s : CS} {r : Fr × CS} (hc : stepC P Γ call ops o fr s = some r) : stepC P Γ call' ops o fr s = some r := by
  unfold stepC at hc ⊢
  cases hw : wantedC ops fr o with
  | false => rw [hw] at hc; exact hc
  | true =>
    rw [hw] at hc
    simp only [cond_true] at hc ⊢
    split at hc
    · rename_i h1
      rw [cop_le h h1]
      exact hc
    · simp at hc
theorem runC_le {call call' : CallC} (h : CallLe call call') {ops : List Oper} : ∀ {l : List Oper} {fr : Fr} {s : CS} {r : Fr × CS}, runC P Γ call ops l fr s = some r → runC P Γ call' ops l fr s = some r
  | [], _, _, _, hc => hc
  | o :: l, fr, s, r, hc => by
    simp only [runC] at hc ⊢
    split at hc
    · rename_i h1
      rw [stepC_le h h1]
      exact runC_le h hc
    · simp at hc
theorem drawC_le {call call' : CallC} (h : CallLe call call') {ops : List Oper} : ∀ {l : List Oper} {fr : Fr} {s : CS} {r : List Lg × Fr × CS}, drawC P Γ call ops l fr s = some r → drawC P Γ call' ops l fr s = some r
  | [], _, _, _, hc => hc
  | o :: l, fr, s, r, hc => by
    simp only [drawC] at hc ⊢
    split at hc
    · rename_i h1
      rw [stepC_le h h1]
      simp only
      split at hc
      · rename_i h2
        rw [drawC_le h h2]
        exact hc
      · simp at hc
    · simp at hc
theorem mono_step : ∀ n, (∀ c fr s r, cm P Γ n c fr s = some r → cm P Γ (n + 1) c fr s = some r) ∧ CallLe (callC P Γ n) (callC P Γ (n + 1)) := by
  intro n
  induction n with
  | zero =>
    refine ⟨fun c fr s r h => by simp [cm] at h, ?_⟩
    intro f args s r h
    unfold callC at h ⊢
    split at h
    · rename_i hx hax
      exact h
    rename_i hax
    split at h
    · split at h
      · simp only [cm, sel_eq] at h
        split at h
        · rename_i hq; split at hq <;> simp at hq
        · rename_i hq; split at hq <;> simp at hq
        · simp at h
      · simp at h
    · simp at h
  | succ n ih =>
    obtain ⟨ih1, ih2⟩ := ih
    have hcode : ∀ c fr s r, cm P Γ (n + 1) c fr s = some r → cm P Γ (n + 1 + 1) c fr s = some r := by
      intro c fr s r h
      cases c with
      | region id ops draw =>
        have h' : (bif draw then match drawC P Γ (callC P Γ n) ops.toList ops.toList fr s with
            | some (logs, fr, t) => bif calm s.n ops.toList logs then some (Exit.normal, fr, t) else none
            | none => none
          else match runC P Γ (callC P Γ n) ops.toList ops.toList fr s with
            | some (fr, s) => some (Exit.normal, fr, s)
            | none => none) = some r := h
        show (bif draw then match drawC P Γ (callC P Γ (n + 1)) ops.toList ops.toList fr s with
            | some (logs, fr, t) => bif calm s.n ops.toList logs then some (Exit.normal, fr, t) else none
            | none => none
          else match runC P Γ (callC P Γ (n + 1)) ops.toList ops.toList fr s with
            | some (fr, s) => some (Exit.normal, fr, s)
            | none => none) = some r
        cases draw with
        | true =>
          simp only [cond_true] at h' ⊢
          split at h'
          · rename_i h1
            rw [drawC_le ih2 h1]
            exact h'
          · simp at h'
        | false =>
          simp only [cond_false] at h' ⊢
          split at h'
          · rename_i h1
            rw [runC_le ih2 h1]
            exact h'
          · simp at h'
      | seq a b =>
        simp only [cm] at h
        rw [cm]
        split at h
        · rename_i h1
          rw [ih1 _ _ _ _ h1]
          exact ih1 _ _ _ _ h
        · rename_i hne
          rw [ih1 _ _ _ _ h]
          split
          · rename_i h1
            simp only [Option.some.injEq] at h1
            subst h1
            exact absurd h (hne _ _)
          · rfl
      | cond c t e =>
        simp only [cm] at h
        rw [cm]
        split at h
        · exact ih1 _ _ _ _ h
        · simp at h
      | block id b =>
        simp only [cm] at h
        rw [cm]
        split at h
        · rename_i h1
          rw [ih1 _ _ _ _ h1]
          exact h
        · rename_i hne
          rw [ih1 _ _ _ _ h]
          split
          · rename_i h1
            simp only [Option.some.injEq] at h1
            subst h1
            exact absurd h (hne _ _ _)
          · rfl
      | loop b =>
        simp only [cm] at h
        rw [cm]
        split at h
        · rename_i h1
          rw [ih1 _ _ _ _ h1]
          exact ih1 _ _ _ _ h
        · rename_i hne
          rw [ih1 _ _ _ _ h]
          split
          · rename_i h1
            simp only [Option.some.injEq] at h1
            subst h1
            exact absurd h (hne _ _)
          · rfl
      | scope b => simp only [cm] at h; rw [cm]; exact ih1 _ _ _ _ h
      | skip => exact h
      | label l => exact h
      | exit id => exact h
      | ret => exact h
      | rangeFunc f ps a b => simp [cm] at h
      | goto l => simp [cm] at h
      | refuse w => simp [cm] at h
    refine ⟨hcode, ?_⟩
    intro f args s r h
    unfold callC at h ⊢
    split at h
    · exact h
    split at h
    · split at h
      · rename_i fn hfn _ body hb
        cases hle : Nat.ble args.length fn.ntmps with
        | false => rw [hle] at h; simp [sel] at h
        | true =>
          rw [hle, sel_true] at h
          rw [sel_true]
          split at h
          · rename_i h1; rw [hcode _ _ _ _ h1]; exact h
          · rename_i h1; rw [hcode _ _ _ _ h1]; exact h
          · simp at h
      · simp at h
    · simp at h
theorem cm_mono {n m : Nat} (h : n ≤ m) {c : Code} {fr : Fr} {s : CS} {r : Exit × Fr × CS} (hc : cm P Γ n c fr s = some r) : cm P Γ m c fr s = some r := by
  induction m with
  | zero => have : n = 0 := by omega
            subst this; exact hc
  | succ m ih =>
    by_cases hm : n = m + 1
    · subst hm; exact hc
    · exact (mono_step m).1 _ _ _ _ (ih (by omega))
theorem callC_mono {n m : Nat} (h : n ≤ m) : CallLe (callC P Γ n) (callC P Γ m) := by
  induction m with
  | zero => have : n = 0 := by omega
            subst this; exact fun _ _ _ _ k => k
  | succ m ih =>
    by_cases hm : n = m + 1
    · subst hm; exact fun _ _ _ _ k => k
    · exact fun f args s r k => (mono_step m).2 _ _ _ _ (ih (by omega) f args s r k)
/-- a piece of code runs so, with enough fuel -/
def Ev (P : Program) (Γ : Env) (c : Code) (fr : Fr) (s : CS) (e : Exit) (fr' : Fr) (s' : CS) : Prop := ∃ n, cm P Γ n c fr s = some (e, fr', s')
/-- a function gives v -/
def Runs (P : Program) (Γ : Env) (f : FuncId) (args : List Value) (s : CS) (v : Value) (s' : CS) : Prop := ∃ n, callC P Γ n f args s = some (v, s')
/-- the operations of a region run so -/
def Ops (P : Program) (Γ : Env) (ops l : List Oper) (fr : Fr) (s : CS) (fr' : Fr) (s' : CS) : Prop := ∃ n, runC P Γ (callC P Γ n) ops l fr s = some (fr', s')
theorem Ev.skip (fr : Fr) (s : CS) : Ev P Γ .skip fr s .normal fr s := ⟨1, rfl⟩
theorem Ev.ret (fr : Fr) (s : CS) : Ev P Γ .ret fr s .ret fr s := ⟨1, rfl⟩
theorem Ev.exit (id : Nat) (fr : Fr) (s : CS) : Ev P Γ (.exit id) fr s (.exit id) fr s := ⟨1, rfl⟩
theorem Ev.seq {a b : Code} {fr fr1 fr2 : Fr} {s s1 s2 : CS} {e : Exit} (h1 : Ev P Γ a fr s .normal fr1 s1) (h2 : Ev P Γ b fr1 s1 e fr2 s2) : Ev P Γ (.seq a b) fr s e fr2 s2 := by
  obtain ⟨n, h1⟩ := h1
  obtain ⟨m, h2⟩ := h2
  refine ⟨max n m + 1, ?_⟩
  rw [cm, cm_mono (Nat.le_max_left n m) h1]
  exact cm_mono (Nat.le_max_right n m) h2
theorem Ev.seqOut {a b : Code} {fr fr1 : Fr} {s s1 : CS} {e : Exit} (h1 : Ev P Γ a fr s e fr1 s1) (he : e ≠ .normal) : Ev P Γ (.seq a b) fr s e fr1 s1 := by
  obtain ⟨n, h1⟩ := h1
  refine ⟨n + 1, ?_⟩
  rw [cm, h1]
  cases e <;> first | exact absurd rfl he | rfl
theorem Ev.cond {c : Operand} {t f : Code} {fr fr' : Fr} {s s' : CS} {e : Exit} {b : Bool} (hb : evalC fr c = .bool b) (h : Ev P Γ (bif b then t else f) fr s e fr' s') : Ev P Γ (.cond c t f) fr s e fr' s' := by
  obtain ⟨n, h⟩ := h
  refine ⟨n + 1, ?_⟩
  rw [cm, hb]
  exact h
theorem Ev.block {id : Nat} {b : Code} {fr fr' : Fr} {s s' : CS} {e : Exit} (h : Ev P Γ b fr s e fr' s') : Ev P Γ (.block id b) fr s (match e with | .exit i => (bif Nat.beq i id then .normal else .exit i) | e => e) fr' s' := by
  obtain ⟨n, h⟩ := h
  refine ⟨n + 1, ?_⟩
  rw [cm, h]
  cases e <;> rfl
theorem Ev.scope {b : Code} {fr fr' : Fr} {s s' : CS} {e : Exit} (h : Ev P Γ b fr s e fr' s') : Ev P Γ (.scope b) fr s e fr' s' := by
  obtain ⟨n, h⟩ := h
  exact ⟨n + 1, h⟩
theorem Ev.again {b : Code} {fr fr1 fr2 : Fr} {s s1 s2 : CS} {e : Exit} (h1 : Ev P Γ b fr s .normal fr1 s1) (h2 : Ev P Γ (.loop b) fr1 s1 e fr2 s2) : Ev P Γ (.loop b) fr s e fr2 s2 := by
  obtain ⟨n, h1⟩ := h1
  obtain ⟨m, h2⟩ := h2
  refine ⟨max n m + 1, ?_⟩
  rw [cm, cm_mono (Nat.le_max_left n m) h1]
  exact cm_mono (Nat.le_max_right n m) h2
theorem Ev.last {b : Code} {fr fr1 : Fr} {s s1 : CS} {e : Exit} (h1 : Ev P Γ b fr s e fr1 s1) (he : e ≠ .normal) : Ev P Γ (.loop b) fr s e fr1 s1 := by
  obtain ⟨n, h1⟩ := h1
  refine ⟨n + 1, ?_⟩
  rw [cm, h1]
  cases e <;> first | exact absurd rfl he | rfl
theorem Ev.region {id : Nat} {ops : List Oper} {fr fr' : Fr} {s s' : CS} (h : Ops P Γ ops ops fr s fr' s') : Ev P Γ (.region id ops.toArray false) fr s .normal fr' s' := by
  obtain ⟨n, h⟩ := h
  refine ⟨n + 1, ?_⟩
  show (match runC P Γ (callC P Γ n) ops.toArray.toList ops.toArray.toList fr s with
            | some (fr, s) => some (Exit.normal, fr, s)
            | none => none) = _
  simp only [List.toList_toArray, h]
theorem Ops.nil {ops : List Oper} (fr : Fr) (s : CS) : Ops P Γ ops [] fr s fr s := ⟨0, rfl⟩
theorem Ops.cons {ops : List Oper} {o : Oper} {l : List Oper} {fr fr2 : Fr} {s s1 s2 : CS} {v : Value} (hw : wantedC ops fr o = true) (h1 : ∃ n, cop P Γ (callC P Γ n) (evalC fr) o s = some (v, s1)) (h2 : Ops P Γ ops l (putC fr o.dst v) s1 fr2 s2) : Ops P Γ ops (o :: l) fr s fr2 s2 := by
  obtain ⟨n, h1⟩ := h1
  obtain ⟨m, h2⟩ := h2
  refine ⟨max n m, ?_⟩
  rw [runC, stepC, hw, cond_true, cop_le (callC_mono (Nat.le_max_left n m)) h1]
  exact runC_le (callC_mono (Nat.le_max_right n m)) h2
theorem Ops.skip {ops : List Oper} {o : Oper} {l : List Oper} {fr fr2 : Fr} {s s2 : CS} (hw : wantedC ops fr o = false) (h2 : Ops P Γ ops l (putC fr o.dst undef) s fr2 s2) : Ops P Γ ops (o :: l) fr s fr2 s2 := by
  obtain ⟨m, h2⟩ := h2
  refine ⟨m, ?_⟩
  rw [runC, stepC, hw, cond_false]
  exact h2
theorem Runs.of {f : FuncId} {fn : Func} {body : Code} {args vs : List Value} {s s1 s2 : CS} {fr' : Fr} (hax : Γ.ax f = none) (hf : Γ.fn.at f = some fn) (hb : fn.body = some body) (hl : args.length ≤ fn.ntmps) {e : Exit} (he : e = .normal ∨ e = .ret)
    (h : Ev P Γ body (Fr.ofArgs args 0 ⟨fn.ntmps, Tr.all undef 9⟩) s e fr' s1) (hr : resC Γ fr' s1 fn.results.toList = some (vs, s2)) : Runs P Γ f args s (tupC vs) s2 := by
  obtain ⟨n, h⟩ := h
  refine ⟨n, ?_⟩
  unfold callC
  rw [hax, hf]
  simp only [hb]
  rw [ble_iff.2 hl, sel_true, h]
  rcases he with rfl | rfl <;> simp only [hr]
end
end Go.Proofs.YtcmfoipnoejmlaaDoor
