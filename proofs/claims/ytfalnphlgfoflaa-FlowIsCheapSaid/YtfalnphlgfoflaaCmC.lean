/- The plain machine by hand: rules to follow a function over unknown data. No program in sight. -/
import Derived.Test.YtfalnphlgfoflaaCmB
import Derived.Laws.Strings
set_option linter.unusedSimpArgs false
set_option linter.unusedVariables false
set_option linter.unusedSectionVars false
namespace Go.Proofs.Ytfalnphlgfoflaa
open Go Go.RowKit
section
variable {P : Program} {Γ : Env}
def CallLe (c c' : CallC) : Prop := ∀ f args s r, c f args s = some r → c' f args s = some r
theorem cop_le {call call' : CallC} (h : CallLe call call') {ρ : Operand → Value} {o : Oper} {s : CS} {r : Value × CS} (hc : cop P Γ call ρ o s = some r) : cop P Γ call' ρ o s = some r := by
  obtain ⟨dst, op, type, pos, after, guard⟩ := o
  unfold cop at hc ⊢
  cases op with
  | call c =>
    simp only at hc ⊢
    split at hc
    · rename_i f hf
      unfold opCall at hc ⊢
      split at hc
      · exact h _ _ _ _ hc
      · simp at hc
    · exact hc
    · simp at hc
  | makeMap t r => cases r <;> exact hc
  | _ => exact hc
theorem stepC_le {call call' : CallC} (h : CallLe call call') {ops : List Oper} {o : Oper} {fr : Fr} {s : CS} {r : Fr × CS} (hc : stepC P Γ call ops o fr s = some r) : stepC P Γ call' ops o fr s = some r := by
  unfold stepC at hc ⊢
  cases hw : wantedC ops fr o with
  | false => rw [hw] at hc; exact hc
  | true =>
    rw [hw] at hc
    simp only [cond_true] at hc ⊢
    split at hc
    · rename_i h1
      rw [cop_le h h1]
      exact hc
    · simp at hc
theorem runC_le {call call' : CallC} (h : CallLe call call') {ops : List Oper} : ∀ {l : List Oper} {fr : Fr} {s : CS} {r : Fr × CS}, runC P Γ call ops l fr s = some r → runC P Γ call' ops l fr s = some r
  | [], _, _, _, hc => hc
  | o :: l, fr, s, r, hc => by
    simp only [runC] at hc ⊢
    split at hc
    · rename_i h1
      rw [stepC_le h h1]
      exact runC_le h hc
    · simp at hc
theorem drawC_le {call call' : CallC} (h : CallLe call call') {ops : List Oper} : ∀ {l : List Oper} {fr : Fr} {s : CS} {r : List Lg × Fr × CS}, drawC P Γ call ops l fr s = some r → drawC P Γ call' ops l fr s = some r
  | [], _, _, _, hc => hc
  | o :: l, fr, s, r, hc => by
    simp only [drawC] at hc ⊢
    split at hc
    · rename_i h1
      rw [stepC_le h h1]
      simp only
      split at hc
      · rename_i h2
        rw [drawC_le h h2]
        exact hc
      · simp at hc
    · simp at hc
theorem mono_step : ∀ n, (∀ c fr s r, cm P Γ n c fr s = some r → cm P Γ (n + 1) c fr s = some r) ∧ CallLe (callC P Γ n) (callC P Γ (n + 1)) := by
  intro n
  induction n with
  | zero =>
    refine ⟨fun c fr s r h => by simp [cm] at h, ?_⟩
    intro f args s r h
    unfold callC at h ⊢
    split at h
    · rename_i hx hax
      exact h
    rename_i hax
    split at h
    · split at h
      · simp only [cm, sel_eq] at h
        split at h
        · rename_i hq; split at hq <;> simp at hq
        · rename_i hq; split at hq <;> simp at hq
        · simp at h
      · simp at h
    · simp at h
  | succ n ih =>
    obtain ⟨ih1, ih2⟩ := ih
    have hcode : ∀ c fr s r, cm P Γ (n + 1) c fr s = some r → cm P Γ (n + 1 + 1) c fr s = some r := by
      intro c fr s r h
      cases c with
      | region id ops draw =>
        have h' : (bif draw then match drawC P Γ (callC P Γ n) ops.toList ops.toList fr s with
            | some (logs, fr, t) => bif calm s.n ops.toList logs then some (Exit.normal, fr, t) else none
            | none => none
          else match runC P Γ (callC P Γ n) ops.toList ops.toList fr s with
            | some (fr, s) => some (Exit.normal, fr, s)
            | none => none) = some r := h
        show (bif draw then match drawC P Γ (callC P Γ (n + 1)) ops.toList ops.toList fr s with
            | some (logs, fr, t) => bif calm s.n ops.toList logs then some (Exit.normal, fr, t) else none
            | none => none
          else match runC P Γ (callC P Γ (n + 1)) ops.toList ops.toList fr s with
            | some (fr, s) => some (Exit.normal, fr, s)
            | none => none) = some r
        cases draw with
        | true =>
          simp only [cond_true] at h' ⊢
          split at h'
          · rename_i h1
            rw [drawC_le ih2 h1]
            exact h'
          · simp at h'
        | false =>
          simp only [cond_false] at h' ⊢
          split at h'
          · rename_i h1
            rw [runC_le ih2 h1]
            exact h'
          · simp at h'
      | seq a b =>
        simp only [cm] at h
        rw [cm]
        split at h
        · rename_i h1
          rw [ih1 _ _ _ _ h1]
          exact ih1 _ _ _ _ h
        · rename_i hne
          rw [ih1 _ _ _ _ h]
          split
          · rename_i h1
            simp only [Option.some.injEq] at h1
            subst h1
            exact absurd h (hne _ _)
          · rfl
      | cond c t e =>
        simp only [cm] at h
        rw [cm]
        split at h
        · exact ih1 _ _ _ _ h
        · simp at h
      | block id b =>
        simp only [cm] at h
        rw [cm]
        split at h
        · rename_i h1
          rw [ih1 _ _ _ _ h1]
          exact h
        · rename_i hne
          rw [ih1 _ _ _ _ h]
          split
          · rename_i h1
            simp only [Option.some.injEq] at h1
            subst h1
            exact absurd h (hne _ _ _)
          · rfl
      | loop b =>
        simp only [cm] at h
        rw [cm]
        split at h
        · rename_i h1
          rw [ih1 _ _ _ _ h1]
          exact ih1 _ _ _ _ h
        · rename_i hne
          rw [ih1 _ _ _ _ h]
          split
          · rename_i h1
            simp only [Option.some.injEq] at h1
            subst h1
            exact absurd h (hne _ _)
          · rfl
      | scope b => simp only [cm] at h; rw [cm]; exact ih1 _ _ _ _ h
      | skip => exact h
      | label l => exact h
      | exit id => exact h
      | ret => exact h
      | rangeFunc f ps a b => simp [cm] at h
      | goto l => simp [cm] at h
      | refuse w => simp [cm] at h
    refine ⟨hcode, ?_⟩
    intro f args s r h
    unfold callC at h ⊢
    split at h
    · exact h
    split at h
    · split at h
      · rename_i fn hfn _ body hb
        cases hle : Nat.ble args.length fn.ntmps with
        | false => rw [hle] at h; simp [sel] at h
        | true =>
          rw [hle, sel_true] at h
          rw [sel_true]
          split at h
          · rename_i h1; rw [hcode _ _ _ _ h1]; exact h
          · rename_i h1; rw [hcode _ _ _ _ h1]; exact h
          · simp at h
      · simp at h
    · simp at h
theorem cm_mono {n m : Nat} (h : n ≤ m) {c : Code} {fr : Fr} {s : CS} {r : Exit × Fr × CS} (hc : cm P Γ n c fr s = some r) : cm P Γ m c fr s = some r := by
  induction m with
  | zero => have : n = 0 := by omega
            subst this; exact hc
  | succ m ih =>
    by_cases hm : n = m + 1
    · subst hm; exact hc
    · exact (mono_step m).1 _ _ _ _ (ih (by omega))
theorem callC_mono {n m : Nat} (h : n ≤ m) : CallLe (callC P Γ n) (callC P Γ m) := by
  induction m with
  | zero => have : n = 0 := by omega
            subst this; exact fun _ _ _ _ k => k
  | succ m ih =>
    by_cases hm : n = m + 1
    · subst hm; exact fun _ _ _ _ k => k
    · exact fun f args s r k => (mono_step m).2 _ _ _ _ (ih (by omega) f args s r k)
def Ev (P : Program) (Γ : Env) (c : Code) (fr : Fr) (s : CS) (e : Exit) (fr' : Fr) (s' : CS) : Prop := ∃ n, cm P Γ n c fr s = some (e, fr', s')
def Runs (P : Program) (Γ : Env) (f : FuncId) (args : List Value) (s : CS) (v : Value) (s' : CS) : Prop := ∃ n, callC P Γ n f args s = some (v, s')
def Ops (P : Program) (Γ : Env) (ops l : List Oper) (fr : Fr) (s : CS) (fr' : Fr) (s' : CS) : Prop := ∃ n, runC P Γ (callC P Γ n) ops l fr s = some (fr', s')
theorem Ev.skip (fr : Fr) (s : CS) : Ev P Γ .skip fr s .normal fr s := ⟨1, rfl⟩
theorem Ev.ret (fr : Fr) (s : CS) : Ev P Γ .ret fr s .ret fr s := ⟨1, rfl⟩
theorem Ev.exit (id : Nat) (fr : Fr) (s : CS) : Ev P Γ (.exit id) fr s (.exit id) fr s := ⟨1, rfl⟩
theorem Ev.seq {a b : Code} {fr fr1 fr2 : Fr} {s s1 s2 : CS} {e : Exit} (h1 : Ev P Γ a fr s .normal fr1 s1) (h2 : Ev P Γ b fr1 s1 e fr2 s2) : Ev P Γ (.seq a b) fr s e fr2 s2 := by
  obtain ⟨n, h1⟩ := h1
  obtain ⟨m, h2⟩ := h2
  refine ⟨max n m + 1, ?_⟩
  rw [cm, cm_mono (Nat.le_max_left n m) h1]
  exact cm_mono (Nat.le_max_right n m) h2
theorem Ev.seqOut {a b : Code} {fr fr1 : Fr} {s s1 : CS} {e : Exit} (h1 : Ev P Γ a fr s e fr1 s1) (he : e ≠ .normal) : Ev P Γ (.seq a b) fr s e fr1 s1 := by
  obtain ⟨n, h1⟩ := h1
  refine ⟨n + 1, ?_⟩
  rw [cm, h1]
  cases e <;> first | exact absurd rfl he | rfl
theorem Ev.cond {c : Operand} {t f : Code} {fr fr' : Fr} {s s' : CS} {e : Exit} {b : Bool} (hb : evalC fr c = .bool b) (h : Ev P Γ (bif b then t else f) fr s e fr' s') : Ev P Γ (.cond c t f) fr s e fr' s' := by
  obtain ⟨n, h⟩ := h
  refine ⟨n + 1, ?_⟩
  rw [cm, hb]
  exact h
theorem Ev.block {id : Nat} {b : Code} {fr fr' : Fr} {s s' : CS} {e : Exit} (h : Ev P Γ b fr s e fr' s') : Ev P Γ (.block id b) fr s (match e with | .exit i => (bif Nat.beq i id then .normal else .exit i) | e => e) fr' s' := by
  obtain ⟨n, h⟩ := h
  refine ⟨n + 1, ?_⟩
  rw [cm, h]
  cases e <;> rfl
theorem Ev.scope {b : Code} {fr fr' : Fr} {s s' : CS} {e : Exit} (h : Ev P Γ b fr s e fr' s') : Ev P Γ (.scope b) fr s e fr' s' := by
  obtain ⟨n, h⟩ := h
  exact ⟨n + 1, h⟩
theorem Ev.again {b : Code} {fr fr1 fr2 : Fr} {s s1 s2 : CS} {e : Exit} (h1 : Ev P Γ b fr s .normal fr1 s1) (h2 : Ev P Γ (.loop b) fr1 s1 e fr2 s2) : Ev P Γ (.loop b) fr s e fr2 s2 := by
  obtain ⟨n, h1⟩ := h1
  obtain ⟨m, h2⟩ := h2
  refine ⟨max n m + 1, ?_⟩
  rw [cm, cm_mono (Nat.le_max_left n m) h1]
  exact cm_mono (Nat.le_max_right n m) h2
theorem Ev.last {b : Code} {fr fr1 : Fr} {s s1 : CS} {e : Exit} (h1 : Ev P Γ b fr s e fr1 s1) (he : e ≠ .normal) : Ev P Γ (.loop b) fr s e fr1 s1 := by
  obtain ⟨n, h1⟩ := h1
  refine ⟨n + 1, ?_⟩
  rw [cm, h1]
  cases e <;> first | exact absurd rfl he | rfl
theorem Ev.region {id : Nat} {ops : List Oper} {fr fr' : Fr} {s s' : CS} (h : Ops P Γ ops ops fr s fr' s') : Ev P Γ (.region id ops.toArray false) fr s .normal fr' s' := by
  obtain ⟨n, h⟩ := h
  refine ⟨n + 1, ?_⟩
  show (match runC P Γ (callC P Γ n) ops.toArray.toList ops.toArray.toList fr s with
            | some (fr, s) => some (Exit.normal, fr, s)
            | none => none) = _
  simp only [List.toList_toArray, h]
theorem Ops.nil {ops : List Oper} (fr : Fr) (s : CS) : Ops P Γ ops [] fr s fr s := ⟨0, rfl⟩
theorem Ops.cons {ops : List Oper} {o : Oper} {l : List Oper} {fr fr2 : Fr} {s s1 s2 : CS} {v : Value} (hw : wantedC ops fr o = true) (h1 : ∃ n, cop P Γ (callC P Γ n) (evalC fr) o s = some (v, s1)) (h2 : Ops P Γ ops l (putC fr o.dst v) s1 fr2 s2) : Ops P Γ ops (o :: l) fr s fr2 s2 := by
  obtain ⟨n, h1⟩ := h1
  obtain ⟨m, h2⟩ := h2
  refine ⟨max n m, ?_⟩
  rw [runC, stepC, hw, cond_true, cop_le (callC_mono (Nat.le_max_left n m)) h1]
  exact runC_le (callC_mono (Nat.le_max_right n m)) h2
theorem Ops.skip {ops : List Oper} {o : Oper} {l : List Oper} {fr fr2 : Fr} {s s2 : CS} (hw : wantedC ops fr o = false) (h2 : Ops P Γ ops l (putC fr o.dst undef) s fr2 s2) : Ops P Γ ops (o :: l) fr s fr2 s2 := by
  obtain ⟨m, h2⟩ := h2
  refine ⟨m, ?_⟩
  rw [runC, stepC, hw, cond_false]
  exact h2
theorem Runs.of {f : FuncId} {fn : Func} {body : Code} {args vs : List Value} {s s1 s2 : CS} {fr' : Fr} (hax : Γ.ax f = none) (hf : Γ.fn.at f = some fn) (hb : fn.body = some body) (hl : args.length ≤ fn.ntmps) {e : Exit} (he : e = .normal ∨ e = .ret)
    (h : Ev P Γ body (Fr.ofArgs args 0 ⟨fn.ntmps, Tr.all undef 9⟩) s e fr' s1) (hr : resC Γ fr' s1 fn.results.toList = some (vs, s2)) : Runs P Γ f args s (tupC vs) s2 := by
  obtain ⟨n, h⟩ := h
  refine ⟨n, ?_⟩
  unfold callC
  rw [hax, hf]
  simp only [hb]
  rw [ble_iff.2 hl, sel_true, h]
  rcases he with rfl | rfl <;> simp only [hr]
end
end Go.Proofs.Ytfalnphlgfoflaa
namespace Go.Proofs.Ytfalnphlgfoflaa
open Go Go.RowKit
section
variable {P : Program} {Γ : Env}
open Classical in
noncomputable def callR (P : Program) (Γ : Env) : CallC := fun f args s => if h : ∃ r : Value × CS, ∃ n, callC P Γ n f args s = some r then some h.choose else none
theorem callR_some {f : FuncId} {args : List Value} {s : CS} {r : Value × CS} (h : callR P Γ f args s = some r) : ∃ n, callC P Γ n f args s = some r := by
  unfold callR at h
  split at h
  · rename_i hx
    obtain ⟨n, hn⟩ := hx.choose_spec
    simp only [Option.some.injEq] at h
    exact ⟨n, by rw [← h]; exact hn⟩
  · simp at h
theorem callR_of {f : FuncId} {args : List Value} {s : CS} {r : Value × CS} {n : Nat} (h : callC P Γ n f args s = some r) : callR P Γ f args s = some r := by
  unfold callR
  have hx : ∃ r : Value × CS, ∃ n, callC P Γ n f args s = some r := ⟨r, n, h⟩
  rw [dif_pos hx]
  obtain ⟨m, hm⟩ := hx.choose_spec
  have h1 := callC_mono (P := P) (Γ := Γ) (Nat.le_max_left n m) f args s _ h
  have h2 := callC_mono (P := P) (Γ := Γ) (Nat.le_max_right n m) f args s _ hm
  rw [h1] at h2
  exact h2.symm
theorem cop_R {ρ : Operand → Value} {o : Oper} {s : CS} {r : Value × CS} (hc : cop P Γ (callR P Γ) ρ o s = some r) : ∃ n, cop P Γ (callC P Γ n) ρ o s = some r := by
  obtain ⟨dst, op, type, pos, after, guard⟩ := o
  unfold cop at hc ⊢
  cases op with
  | call c =>
    simp only at hc ⊢
    split at hc
    · rename_i f hf
      unfold opCall at hc ⊢
      split at hc
      · exact callR_some hc
      · simp at hc
    · exact ⟨0, hc⟩
    · simp at hc
  | makeMap t r => cases r <;> exact ⟨0, hc⟩
  | _ => exact ⟨0, hc⟩
theorem stepC_R {ops : List Oper} {o : Oper} {fr : Fr} {s : CS} {r : Fr × CS} (hc : stepC P Γ (callR P Γ) ops o fr s = some r) : ∃ n, stepC P Γ (callC P Γ n) ops o fr s = some r := by
  unfold stepC at hc ⊢
  cases hw : wantedC ops fr o with
  | false => rw [hw] at hc; exact ⟨0, hc⟩
  | true =>
    rw [hw] at hc
    simp only [cond_true] at hc ⊢
    split at hc
    · rename_i h1
      obtain ⟨n, hn⟩ := cop_R h1
      exact ⟨n, by rw [hn]; exact hc⟩
    · simp at hc
theorem runC_R {ops : List Oper} : ∀ {l : List Oper} {fr : Fr} {s : CS} {r : Fr × CS}, runC P Γ (callR P Γ) ops l fr s = some r → ∃ n, runC P Γ (callC P Γ n) ops l fr s = some r
  | [], _, _, _, hc => ⟨0, hc⟩
  | o :: l, fr, s, r, hc => by
    simp only [runC] at hc ⊢
    split at hc
    · rename_i h1
      obtain ⟨n, hn⟩ := stepC_R h1
      obtain ⟨m, hm⟩ := runC_R hc
      refine ⟨max n m, ?_⟩
      rw [stepC_le (callC_mono (Nat.le_max_left n m)) hn]
      exact runC_le (callC_mono (Nat.le_max_right n m)) hm
    · simp at hc
theorem drawC_R {ops : List Oper} : ∀ {l : List Oper} {fr : Fr} {s : CS} {r : List Lg × Fr × CS}, drawC P Γ (callR P Γ) ops l fr s = some r → ∃ n, drawC P Γ (callC P Γ n) ops l fr s = some r
  | [], _, _, _, hc => ⟨0, hc⟩
  | o :: l, fr, s, r, hc => by
    simp only [drawC] at hc ⊢
    split at hc
    · rename_i h1
      obtain ⟨n, hn⟩ := stepC_R h1
      split at hc
      · rename_i h2
        obtain ⟨m, hm⟩ := drawC_R h2
        refine ⟨max n m, ?_⟩
        rw [stepC_le (callC_mono (Nat.le_max_left n m)) hn]
        simp only
        rw [drawC_le (callC_mono (Nat.le_max_right n m)) hm]
        exact hc
      · simp at hc
    · simp at hc
def W (P : Program) (Γ : Env) (c : Code) (fr : Fr) (s : CS) (Q : Exit → Fr → CS → Prop) : Prop := ∃ e fr' s', Ev P Γ c fr s e fr' s' ∧ Q e fr' s'
def onN (k : Fr → CS → Prop) (Q : Exit → Fr → CS → Prop) (e : Exit) (fr : Fr) (s : CS) : Prop := match e with
  | .normal => k fr s
  | e => Q e fr s
def onB (id : Nat) (Q : Exit → Fr → CS → Prop) (e : Exit) (fr : Fr) (s : CS) : Prop := match e with
  | .exit i => bif Nat.beq i id then Q .normal fr s else Q (.exit i) fr s
  | e => Q e fr s
theorem W.mono {c : Code} {fr : Fr} {s : CS} {Q R : Exit → Fr → CS → Prop} (h : W P Γ c fr s Q) (k : ∀ e fr s, Q e fr s → R e fr s) : W P Γ c fr s R := by
  obtain ⟨e, fr', s', h1, h2⟩ := h
  exact ⟨e, fr', s', h1, k _ _ _ h2⟩
theorem W.skip {fr : Fr} {s : CS} {Q : Exit → Fr → CS → Prop} (h : Q .normal fr s) : W P Γ .skip fr s Q := ⟨_, _, _, Ev.skip fr s, h⟩
theorem W.ret {fr : Fr} {s : CS} {Q : Exit → Fr → CS → Prop} (h : Q .ret fr s) : W P Γ .ret fr s Q := ⟨_, _, _, Ev.ret fr s, h⟩
theorem W.exit {id : Nat} {fr : Fr} {s : CS} {Q : Exit → Fr → CS → Prop} (h : Q (.exit id) fr s) : W P Γ (.exit id) fr s Q := ⟨_, _, _, Ev.exit id fr s, h⟩
theorem W.label {l : Nat} {fr : Fr} {s : CS} {Q : Exit → Fr → CS → Prop} (h : Q .normal fr s) : W P Γ (.label l) fr s Q := ⟨_, _, _, ⟨1, rfl⟩, h⟩
theorem W.seq {a b : Code} {fr : Fr} {s : CS} {Q : Exit → Fr → CS → Prop} (h : W P Γ a fr s (onN (fun fr s => W P Γ b fr s Q) Q)) : W P Γ (.seq a b) fr s Q := by
  obtain ⟨e, fr1, s1, h1, h2⟩ := h
  cases e with
  | normal =>
    obtain ⟨e2, fr2, s2, h3, h4⟩ := h2
    exact ⟨_, _, _, Ev.seq h1 h3, h4⟩
  | _ => exact ⟨_, _, _, Ev.seqOut h1 (by simp), h2⟩
theorem W.cond {c : Operand} {t f : Code} {fr : Fr} {s : CS} {Q : Exit → Fr → CS → Prop} {b : Bool} (hb : evalC fr c = .bool b) (h : W P Γ (bif b then t else f) fr s Q) : W P Γ (.cond c t f) fr s Q := by
  obtain ⟨e, fr1, s1, h1, h2⟩ := h
  exact ⟨_, _, _, Ev.cond hb h1, h2⟩
theorem W.block {id : Nat} {b : Code} {fr : Fr} {s : CS} {Q : Exit → Fr → CS → Prop} (h : W P Γ b fr s (onB id Q)) : W P Γ (.block id b) fr s Q := by
  obtain ⟨e, fr1, s1, h1, h2⟩ := h
  refine ⟨_, _, _, Ev.block h1, ?_⟩
  cases e with
  | exit i =>
    simp only [onB] at h2
    show Q (bif Nat.beq i id then .normal else .exit i) fr1 s1
    cases hq : Nat.beq i id with
    | true => rw [hq] at h2; exact h2
    | false => rw [hq] at h2; exact h2
  | _ => exact h2
theorem W.scope {b : Code} {fr : Fr} {s : CS} {Q : Exit → Fr → CS → Prop} (h : W P Γ b fr s Q) : W P Γ (.scope b) fr s Q := by
  obtain ⟨e, fr1, s1, h1, h2⟩ := h
  exact ⟨_, _, _, Ev.scope h1, h2⟩
theorem W.loop {b : Code} {Q : Exit → Fr → CS → Prop} (I : Nat → Fr → CS → Prop) (hb : ∀ n fr s, I n fr s → W P Γ b fr s (onN (fun fr s => ∃ m, m < n ∧ I m fr s) Q)) : ∀ n fr s, I n fr s → W P Γ (.loop b) fr s Q := by
  intro n
  induction n using Nat.strongRecOn with
  | _ n ih =>
    intro fr s hI
    obtain ⟨e, fr1, s1, h1, h2⟩ := hb n fr s hI
    cases e with
    | normal =>
      obtain ⟨m, hm, hI'⟩ := h2
      obtain ⟨e2, fr2, s2, h3, h4⟩ := ih m hm fr1 s1 hI'
      exact ⟨_, _, _, Ev.again h1 h3, h4⟩
    | _ => exact ⟨_, _, _, Ev.last h1 (by simp), h2⟩
theorem W.region {id : Nat} {ops : Array Oper} {fr fr' : Fr} {s s' : CS} {Q : Exit → Fr → CS → Prop} (h : runC P Γ (callR P Γ) ops.toList ops.toList fr s = some (fr', s')) (hq : Q .normal fr' s') : W P Γ (.region id ops false) fr s Q := by
  obtain ⟨n, hn⟩ := runC_R h
  refine ⟨_, _, _, ⟨n + 1, ?_⟩, hq⟩
  show (match runC P Γ (callC P Γ n) ops.toList ops.toList fr s with
            | some (fr, s) => some (Exit.normal, fr, s)
            | none => none) = _
  rw [hn]
theorem W.draw {id : Nat} {ops : Array Oper} {fr fr' : Fr} {s s' : CS} {logs : List Lg} {Q : Exit → Fr → CS → Prop} (h : drawC P Γ (callR P Γ) ops.toList ops.toList fr s = some (logs, fr', s')) (hc : calm s.n ops.toList logs = true) (hq : Q .normal fr' s') : W P Γ (.region id ops true) fr s Q := by
  obtain ⟨n, hn⟩ := drawC_R h
  refine ⟨_, _, _, ⟨n + 1, ?_⟩, hq⟩
  show (match drawC P Γ (callC P Γ n) ops.toList ops.toList fr s with
        | some (logs, fr, t) => bif calm s.n ops.toList logs then some (Exit.normal, fr, t) else none
        | none => none) = _
  rw [hn]
  simp only [hc, cond_true]
theorem callR_body {f : FuncId} {fn : Func} {body : Code} {args : List Value} {s s2 : CS} {v : Value} (hax : Γ.ax f = none) (hf : Γ.fn.at f = some fn) (hb : fn.body = some body) (hl : args.length ≤ fn.ntmps)
    (h : W P Γ body (Fr.ofArgs args 0 ⟨fn.ntmps, Tr.all undef 9⟩) s fun e fr' s1 => (e = .normal ∨ e = .ret) ∧ ∃ vs, resC Γ fr' s1 fn.results.toList = some (vs, s2) ∧ v = tupC vs) : callR P Γ f args s = some (v, s2) := by
  obtain ⟨e, fr1, s1, h1, he, vs, hr, rfl⟩ := h
  obtain ⟨n, hn⟩ := Runs.of hax hf hb hl he h1 hr
  exact callR_of hn
end
end Go.Proofs.Ytfalnphlgfoflaa
namespace Go.Proofs.Ytfalnphlgfoflaa
open Go Go.RowKit
section
variable {P : Program} {Γ : Env} {ρ : Operand → Value} {s : CS} {d : Option Tmp} {ty : TypeId} {pos : String} {t t2 : TypeId} {x y : Operand}
theorem nilT_int (d : TypeDesc) (k : IntKind) (n : Int) : nilT d (.int k n) = none := by cases d <;> rfl
theorem eqC_int (op : BinOp) (k : IntKind) (n : Int) (v : Value) : eqC Γ t op (.int k n) v = none := by
  unfold eqC
  cases Γ.ti.at t with
  | none => rfl
  | some i => cases op <;> first | rfl | (simp only [nilT_int]; rfl)
theorem eqGuard_nat (op : BinOp) (k k' : IntKind) (m n : Int) : eqGuard op t x y (.int k m) (.int k' n) = pure () := by
  unfold eqGuard
  cases op <;> simp
theorem opBin_pure {op : BinOp} {k k' : IntKind} {a b : Int} {r : Value} {o : Oper} (ho : o.op = .binOp op t x y t2) (hx : ρ x = .int k a) (hy : ρ y = .int k' b) (w : World)
    (hr : binOp op t (.int k a) (.int k' b) = pure r) (hp : plainV 3 r = true) : opBin P Γ ρ o s t op (.int k a) (.int k' b) = some (r, s) := by
  unfold opBin
  cases hc : binC op (.int k a) (.int k' b) with
  | some v =>
    have h1 := (binC_run (σ := fun _ _ => none) (P := P) (t := t) (x := x) (y := y) (w := w) hc (VR.ofInt _ _) (VR.ofInt _ _)).2.1
    rw [hr] at h1
    simp at h1
    simp only [h1]
  | none =>
    rw [eqC_int]
    simp only [orPure]
    unfold pureC
    have hops : (o.op.operands.toList.all fun z => plainV 3 (ρ z)) = true := by
      rw [ho]
      simp [Op.operands, hx, hy, plainV]
    rw [hops]
    have he : execOp ρ o = pure (.value r) := by
      unfold execOp
      rw [ho]
      simp only [hx, hy, eqGuard_nat, hr]
      simp
    rw [he]
    simp only [cond_true]
    show retC s (bif plainV 3 r then some r else none) = some (r, s)
    rw [hp]
    rfl
variable {e : Array Edge} {g : Option (Nat × Bool)} {k k' : IntKind} {a b : Int}
def inK (k : IntKind) (n : Int) : Prop := k.wrap n = n
theorem inK_i64 {n : Int} (h : -9223372036854775808 ≤ n ∧ n ≤ 9223372036854775807) : inK .i64 n := by unfold inK; simp [IntKind.wrap, IntKind.bits, IntKind.signed]; omega
theorem pureC_of {o : Oper} {r : Value} (hops : (o.op.operands.toList.all fun z => plainV 3 (ρ z)) = true) (he : execOp ρ o = pure (.value r)) (hp : plainV 3 r = true) : pureC P ρ o = some r := by
  unfold pureC
  rw [hops, he]
  simp only [cond_true]
  show (bif plainV 3 r then some r else none) = some r
  rw [hp]; rfl
theorem ou_neg (hx : ρ x = .int k a) : orPure P ρ ⟨d, .unOp .neg t x, ty, pos, e, g⟩ s (unC .neg (.int k a)) = some (.int k (k.wrap (0 - a)), s) := by
  show retC s (pureC P ρ _) = _
  rw [pureC_of (r := .int k (k.wrap (0 - a)))]
  · rfl
  · simp [Op.operands, hx, plainV]
  · simp [execOp, hx, Op.unary, Op.intArith]
  · rfl
theorem ou_xor (hx : ρ x = .int k a) : orPure P ρ ⟨d, .unOp .xor t x, ty, pos, e, g⟩ s (unC .xor (.int k a)) = some (.int k (k.wrap (BitVec.ofInt k.bits (if k.signed then -1 else k.max) ^^^ BitVec.ofInt k.bits a).toNat), s) := by
  show retC s (pureC P ρ _) = _
  rw [pureC_of (r := .int k (k.wrap (BitVec.ofInt k.bits (if k.signed then -1 else k.max) ^^^ BitVec.ofInt k.bits a).toNat))]
  · rfl
  · simp [Op.operands, hx, plainV]
  · simp [execOp, hx, Op.unary, Op.intBits]
  · rfl
theorem eval0_bind {α β : Type} {f : α → Sem β} : ∀ {m : Sem α} {v : α}, eval0 P m = some v → eval0 P (m >>= f) = eval0 P (f v) := by
  intro m
  induction m with
  | pure a => intro v h; simp only [eval0, Option.some.injEq] at h; subst h; rfl
  | program k ih => intro v h; exact ih P h
  | _ => intro v h; simp [eval0] at h
theorem eval0_underlying {dt : TypeDesc} (h : P.underlying t = some dt) : eval0 P (underlying t) = some dt := by
  unfold underlying
  show eval0 P ((program : Sem Program) >>= _) = _
  rw [eval0_bind (v := P) rfl]
  rw [h]
  rfl
theorem oc_int {src dst : TypeId} (hx : ∃ k, ρ x = .int k a) (hs : (P.underlying src).isSome = true) (hd : P.underlying dst = some (.int k')) : orPure P ρ ⟨d, .convert src dst x, ty, pos, e, g⟩ s (convI k' a) = some (.int k' (k'.wrap a), s) := by
  obtain ⟨k, hx⟩ := hx
  obtain ⟨sd, hs⟩ := Option.isSome_iff_exists.1 hs
  have h : eval0 P (convert src dst (.int k a)) = some (.int k' (k'.wrap a)) := by
    unfold convert
    rw [eval0_bind (eval0_underlying hs), eval0_bind (eval0_underlying hd)]
    cases sd <;> rfl
  cases hc : convI k' a with
  | some v =>
    unfold convI at hc
    split at hc
    · obtain ⟨h1, rfl⟩ := natI_some hc
      have := wrap_nat k' _ (blt_iff.1 h1)
      simp only [orPure]
      rw [← this]; rfl
    · simp at hc
  | none =>
    show retC s (pureC P ρ _) = _
    unfold pureC
    rw [show (((⟨d, .convert src dst x, ty, pos, e, g⟩ : Oper).op.operands.toList.all fun z => plainV 3 (ρ z)) = true) by simp [Op.operands, hx, plainV]]
    have he : eval0 P (execOp ρ ⟨d, .convert src dst x, ty, pos, e, g⟩) = some (.value (.int k' (k'.wrap a))) := by
      unfold execOp
      simp only [hx]
      rw [eval0_bind h]
      rfl
    rw [he]
    rfl
end
end Go.Proofs.Ytfalnphlgfoflaa
namespace Go.Proofs.Ytfalnphlgfoflaa
open Go Go.RowKit
section
variable {P : Program} {Γ : Env} {call : CallC} {ops l : List Oper} {o : Oper} {fr : Fr} {s : CS}
variable {ρ : Operand → Value} {d : Option Tmp} {ty : TypeId} {pos : String} {e : Array Edge} {g : Option (Nat × Bool)}
end
noncomputable def Fr.of (n : Nat) (f : Nat → Value) : Fr := ⟨n, Tr.of f 9 0 1⟩
theorem get_of (n : Nat) (f : Nat → Value) (t : Nat) (h : t < 512) : (Fr.of n f).get t = f t := by
  unfold Fr.get Fr.of
  rw [blt_iff.2 h, sel_true, Tr.get_of f 9 0 1 t (by simpa using h)]
  simp
theorem all_of (n : Nat) : (⟨n, Tr.all undef 9⟩ : Fr) = Fr.of n fun _ => undef := by
  unfold Fr.of
  refine congrArg (Fr.mk n) ?_
  have : ∀ d k w, Tr.all undef d = Tr.of (fun _ => undef) d k w := by
    intro d
    induction d with
    | zero => intro k w; rfl
    | succ d ih =>
      intro k w
      exact congr (congrArg Prod.mk (ih k (2 * w))) (ih (k + w) (2 * w))
  exact this 9 0 1
section
variable {P : Program} {Γ : Env}
theorem callR_go {f : FuncId} {fn : Func} {body : Code} {args : List Value} {s : CS} {r : Value × CS} (n : Nat) (hax : Γ.ax f = none) (hf : Γ.fn.at f = some fn) (hb : fn.body = some body) (hn : fn.ntmps = n) (hl : args.length ≤ n)
    (h : W P Γ body (Fr.ofArgs args 0 (Fr.of n fun _ => undef)) s fun e fr' s1 => (e = .normal ∨ e = .ret) ∧ ∃ vs, resC Γ fr' s1 fn.results.toList = some (vs, r.2) ∧ r.1 = tupC vs) : callR P Γ f args s = some r := by
  subst hn
  refine callR_body (v := r.1) (s2 := r.2) hax hf hb hl ?_
  rw [all_of]
  exact h
end
end Go.Proofs.Ytfalnphlgfoflaa
namespace Go.Proofs.Ytfalnphlgfoflaa
open Go Go.RowKit
def vb (x : UInt8) : Value := .int .u8 (x.toNat : Int)
section
variable {P : Program} {Γ : Env} {ρ : Operand → Value} {s : CS} {d : Option Tmp} {ty : TypeId} {pos : String} {t t2 : TypeId} {x y : Operand} {e : Array Edge} {g : Option (Nat × Bool)}
end
end Go.Proofs.Ytfalnphlgfoflaa
namespace Go.Proofs.Ytfalnphlgfoflaa
open Go Go.RowKit
section
variable {P : Program} {Γ : Env} {call : CallC} {ops l : List Oper} {o : Oper} {fr : Fr} {s : CS}
noncomputable def thenQ {α : Type} (n0 : Nat) (s : CS) (r : Option (Fr × CS)) (k : Fr → CS → Option α) : Option α := match r with
  | some (fr, t) => bif t.wr.isEmpty && t.rd.all fun f => Nat.blt f n0 then k fr (s.outer t) else none
  | none => none
noncomputable def quietC (P : Program) (Γ : Env) (call : CallC) (ops : List Oper) (n0 : Nat) : List Oper → Fr → CS → Option (Fr × CS)
  | [], fr, s => some (fr, s)
  | o :: l, fr, s => thenQ n0 s (stepC P Γ call ops o fr s.inner) (quietC P Γ call ops n0 l)
theorem draw_quiet {n0 : Nat} : ∀ {l : List Oper} {fr fr' : Fr} {s s' : CS}, quietC P Γ call ops n0 l fr s = some (fr', s') → ∃ logs, drawC P Γ call ops l fr s = some (logs, fr', s') ∧ logs.all (fun x => x.wr.isEmpty && x.rd.all fun f => Nat.blt f n0) = true
  | [], fr, fr', s, s', h => by
    simp only [quietC, Option.some.injEq, Prod.mk.injEq] at h
    obtain ⟨rfl, rfl⟩ := h
    exact ⟨[], rfl, rfl⟩
  | o :: l, fr, fr', s, s', h => by
    simp only [quietC, thenQ] at h
    split at h
    · rename_i fr1 t h1
      cases hq : t.wr.isEmpty && t.rd.all fun f => Nat.blt f n0 with
      | false => rw [hq] at h; simp at h
      | true =>
        rw [hq] at h
        simp only [cond_true] at h
        obtain ⟨logs, h2, h3⟩ := draw_quiet h
        refine ⟨⟨t.rd, t.wr, s.n, t.n⟩ :: logs, ?_, ?_⟩
        · simp only [drawC, h1, h2]
        · rw [List.all_cons, h3, Bool.and_true]
          exact hq
    · simp at h
theorem W.quiet {id : Nat} {ops : Array Oper} {fr fr' : Fr} {s s' : CS} {Q : Exit → Fr → CS → Prop} (h : quietC P Γ (callR P Γ) ops.toList s.n ops.toList fr s = some (fr', s')) (hq : Q .normal fr' s') : W P Γ (.region id ops true) fr s Q := by
  obtain ⟨logs, h1, h2⟩ := draw_quiet h
  refine W.draw h1 ?_ hq
  unfold calm
  rw [h2]
  rfl
end
def fupd (g : Nat → Fam) (i : Nat) (x : Fam) : Nat → Fam := fun j => if j = i then x else g j
theorem fupd_same (g : Nat → Fam) (i : Nat) (x : Fam) : fupd g i x i = x := if_pos rfl
theorem fupd_ne (g : Nat → Fam) (i j : Nat) (x : Fam) (h : j ≠ i) : fupd g i x j = g j := if_neg h
abbrev St (n : Nat) (g : Nat → Fam) (lim : Nat) (rd wr : List Nat) : CS := ⟨n, .inr g, lim, rd, wr⟩
theorem objAt_inr (g : Nat → Fam) (i : Nat) : objAt (.inr g) i = g i := Eq.trans rfl rfl
theorem objPut_inr (g : Nat → Fam) (i : Nat) (x : Fam) : objPut (.inr g) i x = .inr (fupd g i x) := by
  show Sum.inr _ = Sum.inr _
  congr 1
  funext j
  rw [sel_eq]
  unfold fupd
  by_cases h : j = i
  · rw [if_pos h, if_pos (by subst h; exact Nat.beq_refl j)]
  · rw [if_neg h, if_neg (fun k => h (Nat.eq_of_beq_eq_true k))]
section
variable {n lim n' : Nat} {g g' : Nat → Fam} {rd wr : List Nat}
theorem ins_ge {m f : Nat} (l : List Nat) (h : m ≤ f) : ins m l f = l := by
  unfold ins
  cases hb : Nat.blt f m with
  | false => rfl
  | true => exact absurd (blt_iff.1 hb) (by omega)
theorem newRow_st {tag : Nat} {cs : List Value} : CS.newRow (St n g lim rd wr) tag cs = some (mkA n (n * 1024 + tag) 0, St (n + 1) (fupd g n ⟨false, [(n * 1024 + tag, cs)], none⟩) lim rd wr) := by
  unfold CS.newRow
  show sel true _ _ = _
  rw [sel_true, objPut_inr]
theorem readRow_st {a : Addr} : CS.readRow (St n g lim rd wr) a = match rowOf (g a.block).rows (Addr.ver a) with
    | some cs => some (cs, St n g lim (ins lim rd a.block) wr)
    | none => none := rfl
theorem rowOf_one {u : Nat} {cs : List Value} : rowOf [(u, cs)] u = some cs := by
  unfold rowOf
  rw [Nat.beq_refl]; rfl
theorem block_mk {f u off : Nat} : (mkA f u off).block = f := Eq.trans rfl rfl
theorem off_mk {f u off : Nat} : (mkA f u off).off = off := Eq.trans rfl rfl
theorem ver_mk {f u off : Nat} : Addr.ver (mkA f u off) = u := Eq.trans rfl rfl
theorem plus_mk {f u off k : Nat} : Addr.plus (mkA f u off) k = mkA f u (off + k) := Eq.trans rfl rfl
end
end Go.Proofs.Ytfalnphlgfoflaa
namespace Go.Proofs.Ytfalnphlgfoflaa
open Go Go.RowKit
def famK : List (Nat × List Value) → Nat → Fam
  | [], _ => famNone
  | (g, cs) :: l, f => if f = g then ⟨true, [(g * 1024, cs)], none⟩ else famK l f
def GlobsAt (w : World) (K : List (Nat × List Value)) : Prop :=
  ∀ p, p ∈ K → p.1 < w.heap.size ∧ ∀ (j : Nat) (u : Value), p.2[j]? = some u → w.cell? ⟨p.1, j, none⟩ = some u ∧ plainV 3 u = true
open Classical in
theorem famK_rows : ∀ {K : List (Nat × List Value)} {f : Nat} {p : Nat × List Value}, p ∈ (famK K f).rows → p.1 = f * 1024 ∧ (f, p.2) ∈ K ∧ (famK K f).rows = [p]
  | [], f, p, h => by simp [famK, famNone] at h
  | (g, cs) :: l, f, p, h => by
    simp only [famK] at h ⊢
    split at h
    · rename_i hf
      subst hf
      simp only [List.mem_singleton] at h
      subst h
      simp
    · rename_i hf
      obtain ⟨h1, h2, h3⟩ := famK_rows h
      rw [if_neg hf]
      exact ⟨h1, List.mem_cons_of_mem _ h2, h3⟩
section
variable {P : Program}
end
end Go.Proofs.Ytfalnphlgfoflaa
namespace Go.Proofs.Ytfalnphlgfoflaa
open Go Go.RowKit
structure AxOk (P : Program) (G : List Nat) (f : Nat) (h : List Value → CS → Option (Value × CS)) : Prop where
  can : ∀ args s v s', h args s = some (v, s') → CInv s → Can s s'
  ok : ∀ (args : List Value) (args' : Array Value) s v s' w σ V, h args s = some (v, s') → RL (VR σ) args args'.toList → Rel σ V s w → Covers V s' → Fresh σ s.n s'.n → CInv s → GlobOk G σ →
    (callFunc f args').run P w = .ok (.enter f args') w ∧ Calls P f args' w fun e w' => ∃ σ' v', e = .returned v' ∧ VR σ' v v' ∧ Rel σ' V s' w' ∧ Ext σ V s w σ' s' w'
def AxsOk (P : Program) (G : List Nat) (ax : Axs) : Prop := ∀ f h, ax f = some h → AxOk P G f h
section
variable {P : Program} {G L : List Nat} {ax : Axs}
theorem AxsOk.can (h : AxsOk P G ax) : CallCan (axC (envAx P L ax)) := by
  intro f args s v s' hc hI
  unfold axC at hc
  change (match ax f with | some k => k args s | none => none) = _ at hc
  cases hq : ax f with
  | none => rw [hq] at hc; simp at hc
  | some k => rw [hq] at hc; exact (h f k hq).can args s v s' hc hI
theorem AxsOk.call (h : AxsOk P G ax) : CallOk P G (axC (envAx P L ax)) := by
  intro f args args' s v s' w σ V hc hl hr hV hF hI hG
  unfold axC at hc
  change (match ax f with | some k => k args s | none => none) = _ at hc
  cases hq : ax f with
  | none => rw [hq] at hc; simp at hc
  | some k => rw [hq] at hc; exact ⟨f, (h f k hq).ok args args' s v s' w σ V hc hl hr hV hF hI hG⟩
theorem AxsOk.none : AxsOk P G fun _ => none := fun f h hq => by simp at hq
def axAdd (f : Nat) (h : List Value → CS → Option (Value × CS)) (ax : Axs) : Axs := fun k => if k = f then some h else ax k
theorem axAdd_same (f : Nat) (h : List Value → CS → Option (Value × CS)) (ax : Axs) : axAdd f h ax f = some h := if_pos rfl
theorem axAdd_ne {f k : Nat} (h : List Value → CS → Option (Value × CS)) (ax : Axs) (hk : k ≠ f) : axAdd f h ax k = ax k := if_neg hk
theorem AxsOk.add {f : Nat} {h : List Value → CS → Option (Value × CS)} (h1 : AxsOk P G ax) (h2 : AxOk P G f h) : AxsOk P G (axAdd f h ax) := by
  intro k u hu
  unfold axAdd at hu
  split at hu
  · rename_i hk; subst hk; simp only [Option.some.injEq] at hu; subst hu; exact h2
  · exact h1 k u hu
theorem Rel.below {σ : Sg} {V : Nat → Prop} {s : CS} {w w' : World} (h : Rel σ V s w) (b : Below w.heap.size w w') : Rel σ V s w' :=
  ⟨h.inj, fun f u b' o z k => Nat.lt_of_lt_of_le (h.lt f u b' o z k) b.size, fun f hf => (h.fam f hf).move (fun _ _ _ k => k) (fun _ _ => rfl) fun u b' o z k => b.block b' (h.lt f u b' o z k), h.none, h.vers⟩
theorem Ext.below (σ : Sg) (V : Nat → Prop) (s : CS) {w w' : World} (b : Below w.heap.size w w') : Ext σ V s w σ s w' :=
  ⟨fun _ _ _ h => h, fun _ _ h k => absurd h k, fun _ _ _ _ _ h k => by rw [h] at k; simp at k, b.size, fun k hk _ => b.block k hk, b.os, b.tape, b.output⟩
theorem enter_ok (hL : funcsOk P G L = true) {f : Nat} {fn : Func} {body : Code} (hfn : (envAx P L ax).fn.at f = some fn) (hb : fn.body = some body) (args' : Array Value) (w : World) : (callFunc f args').run P w = .ok (.enter f args') w := by
  obtain ⟨hok, hfun⟩ := func_ok hL hfn
  unfold funcOk at hok
  simp only [Bool.and_eq_true] at hok
  have hne : ¬ fn.name = "runtime.NumGoroutine" := by simpa using hok.1.2
  simp [callFunc, hfun, hne, hb]
noncomputable def axVal (v : Value) : List Value → CS → Option (Value × CS) := fun args s => match args with
  | [] => some (v, s)
  | _ :: _ => none
theorem ax_val (hL : funcsOk P G L = true) {f : Nat} {fn : Func} {body : Code} (hfn : (envAx P L ax).fn.at f = some fn) (hb : fn.body = some body) {v : Value} (hv : plainV 3 v = true) (hc : ∀ w, Calls P f #[] w fun e w' => e = .returned v ∧ Below w.heap.size w w') : AxOk P G f (axVal v) := by
  refine ⟨?_, ?_⟩
  · intro args s v' s' h _
    cases args with
    | nil => simp only [axVal, Option.some.injEq, Prod.mk.injEq] at h; rw [← h.2]; exact Can.refl _
    | cons a l => simp [axVal] at h
  · intro args args' s v' s' w σ V h hl hr hV hF hI hG
    cases args with
    | cons a l => simp [axVal] at h
    | nil =>
      simp only [axVal, Option.some.injEq, Prod.mk.injEq] at h
      obtain ⟨rfl, rfl⟩ := h
      obtain ⟨args'⟩ := args'
      cases args' with
      | cons a l => exact hl.elim
      | nil =>
        refine ⟨enter_ok hL hfn hb _ _, (hc w).mono ?_⟩
        rintro e w' ⟨rfl, b⟩
        exact ⟨σ, _, rfl, plain_refl 3 hv, hr.below b, Ext.below σ V s b⟩
noncomputable def CS.fn (s : CS) : CS := ⟨s.n, .inr (objAt s.obj), s.lim, s.rd, s.wr⟩
theorem CInv.fn {s : CS} (h : CInv s) : CInv s.fn := ⟨fun f hf => h.none f hf, fun f p hp => h.vers f p hp, h.lim⟩
theorem Rel.fn {σ : Sg} {V : Nat → Prop} {s : CS} {w : World} (h : Rel σ V s w) : Rel σ V s.fn w := ⟨h.inj, h.lt, fun f hf => h.fam f hf, fun f hf => h.none f hf, fun f p hp => h.vers f p hp⟩
structure Con (P : Program) (Γ : Env) (f : Nat) (args : List Value) (s : CS) (v : Value) (s' : CS) : Prop where
  plain : plainV 3 v = true
  obj : s'.obj = s.obj
  lim : s'.lim = s.lim
  wr : s'.wr = s.wr
  rd : ∀ x, x ∈ s.rd → x ∈ s'.rd
  n : s.n ≤ s'.n
  run : ∃ s1, callR P Γ f args s.fn = some (v, s1) ∧ s1.n ≤ s'.n ∧ (∀ x, x ∈ s1.rd → x ∈ s'.rd) ∧ (∀ x, x ∈ s1.wr → x ∈ s.wr) ∧ ∀ f, f < s.n → objAt s1.obj f = objAt s.obj f
theorem calls_of (hm : P.follows .mixedOrders = true) (hL : funcsOk P G L = true) (hx : AxsOk P G ax) {f : Nat} {fn : Func} {body : Code} (hfn : (envAx P L ax).fn.at f = some fn) (hb : fn.body = some body) {args : List Value} {args' : Array Value} {s s' : CS} {v : Value} {w : World} {σ : Sg}
    (h : callR P (envAx P L ax) f args s = some (v, s')) (hl : RL (VR σ) args args'.toList) (hr : Rel σ (fun _ => True) s w) (hF : ∀ f u p, σ f u = some p → f < s.n ∧ u / 1024 < s.n ∧ (objAt s.obj f).ro = true) (hI : CInv s) (hG : GlobOk G σ) :
    Calls P f args' w fun e w' => ∃ σ' v', e = .returned v' ∧ VR σ' v v' ∧ Below w.heap.size w w' := by
  have hA : CallCan (axC (envAx P L ax)) := hx.can
  have hB : CallOk P G (axC (envAx P L ax)) := hx.call
  obtain ⟨n, hn⟩ := callR_some h
  have hFr : Fresh σ s.n s'.n := by
    intro g u hgu
    cases hq : σ g u with
    | none => rfl
    | some p => have := hF g u p hq; omega
  obtain ⟨x, h1, h2⟩ := call_ok hA hB hL (code_ok hm hA hB hL n).1 f args args' s v s' w σ _ hn hl hr (fun _ _ => trivial) hFr hI hG
  have he := enter_ok (ax := ax) hL hfn hb args' w
  rw [he] at h1
  have hx : x = f := by simp_all
  subst hx
  refine h2.mono ?_
  rintro e w' ⟨σ', v', rfl, k1, k2, k3⟩
  exact ⟨σ', v', rfl, k1, k3.st.1, k3.st.2.1, k3.st.2.2, k3.size, fun k hk => k3.frame k hk fun g u o z hs => .inr (hF g u _ hs).2.2⟩
end
end Go.Proofs.Ytfalnphlgfoflaa
namespace Go.Proofs.Ytfalnphlgfoflaa
open Go Go.RowKit
theorem ble_ok {m n : Nat} (h : m ≤ n) : Nat.ble m n = true := ble_iff.2 h
theorem ble_no {m n : Nat} (h : n < m) : Nat.ble m n = false := by
  cases hb : Nat.ble m n with
  | false => rfl
  | true => exact absurd (ble_iff.1 hb) (by omega)
theorem blt_ok {m n : Nat} (h : m < n) : Nat.blt m n = true := blt_iff.2 h
theorem blt_no {m n : Nat} (h : n ≤ m) : Nat.blt m n = false := by
  cases hb : Nat.blt m n with
  | false => rfl
  | true => exact absurd (blt_iff.1 hb) (by omega)
theorem beq_ok {m n : Nat} (h : m = n) : Nat.beq m n = true := by subst h; exact Nat.beq_refl m
theorem beq_no {m n : Nat} (h : m ≠ n) : Nat.beq m n = false := by
  cases hb : Nat.beq m n with
  | false => rfl
  | true => exact absurd (Nat.eq_of_beq_eq_true hb) h
section
variable {P : Program} {Γ : Env} {ρ : Operand → Value} {o : Oper} {s : CS} {n lim : Nat} {g : Nat → Fam} {rd wr : List Nat}
theorem cut_eq {l : List Value} {off k : Nat} (h : off + k ≤ l.length) : cut l off k = some ((l.drop off).take k) := by
  unfold cut
  have : ((l.drop off).take k).length = k := by simp; omega
  simp only [this, Nat.beq_refl, cond_true]
theorem first_sl {f u off len cap e k : Nat} {cs : List Value} (hr : rowOf (g f).rows u = some cs) (hk : off + k * e ≤ cs.length) (hl : lim ≤ f) :
    CS.firstCells (St n g lim rd wr) e k (.slice (some (mkA f u off)) len cap) = some ((cs.drop off).take (k * e), St n g lim rd wr) := by
  unfold CS.firstCells
  simp only
  cases hz : Nat.beq (k * e) 0 with
  | true => simp [Nat.eq_of_beq_eq_true hz]
  | false =>
    simp only [cond_false, readRow_st, ver_mk, block_mk, hr, off_mk, cut_eq hk, ins_ge rd hl]
theorem first_zero {x : Option Addr} {len cap e k : Nat} (h0 : k * e = 0) : CS.firstCells s e k (.slice x len cap) = some ([], s) := by
  unfold CS.firstCells
  simp only [beq_ok h0, cond_true]
theorem first_str {b : ByteArray} {k : Nat} (h : k ≤ b.size) : CS.firstCells s 1 k (.string b) = some (byteVs (b.extract 0 k), s) := by
  unfold CS.firstCells
  simp [ble_ok h]
def OwnR (m : Nat) (g : Nat → Fam) (n e : Nat) (ao : Option Addr) (len : Nat) (cells : List Value) : Prop :=
  cells.length = len * e ∧ ((ao = none ∧ len = 0) ∨ ∃ f u rest, ao = some (mkA f u 0) ∧ g f = ⟨false, (u, cells) :: rest, none⟩ ∧ m ≤ f ∧ f < n ∧ u / 1024 < n ∧ u % 1024 = e + 1)
theorem OwnR.nil (m : Nat) (g : Nat → Fam) (n e : Nat) : OwnR m g n e none 0 [] := ⟨by simp, .inl ⟨rfl, rfl⟩⟩
theorem OwnR.keep {m n' e len : Nat} {g' : Nat → Fam} {ao : Option Addr} {cells : List Value} (h : OwnR m g n e ao len cells) (hg : ∀ i, m ≤ i → i < n → g' i = g i) (hn : n ≤ n') : OwnR m g' n' e ao len cells := by
  obtain ⟨h1, h⟩ := h
  refine ⟨h1, h.imp id ?_⟩
  rintro ⟨f, u, rest, k1, k2, k3, k4, k5, k6⟩
  exact ⟨f, u, rest, k1, by rw [hg f k3 k4]; exact k2, k3, by omega, by omega, k6⟩
structure Made (n : Nat) (g : Nat → Fam) (e : Nat) (ao : Option Addr) (len : Nat) (cells : List Value) (n' : Nat) (g' : Nat → Fam) : Prop where
  own : OwnR n g' n' e ao len cells
  le : n ≤ n'
  old : ∀ i, i < n → g' i = g i
theorem OwnR.first {m e len k : Nat} {ao : Option Addr} {cells : List Value} (h : OwnR m g n e ao len cells) (hl : lim ≤ m) (hk : k ≤ len) : CS.firstCells (St n g lim rd wr) e k (.slice ao len len) = some (cells.take (k * e), St n g lim rd wr) := by
  obtain ⟨h1, h⟩ := h
  rcases h with ⟨rfl, rfl⟩ | ⟨f, u, rest, rfl, k2, k3, k4, k5, k6⟩
  · have : k = 0 := by omega
    subst this
    rw [first_zero (by simp)]
    simp
  · have hkl : k * e ≤ len * e := Nat.mul_le_mul_right e hk
    rw [first_sl (cs := cells) (by rw [k2]; simp [rowOf, Nat.beq_refl]) (by omega) (by omega)]
    simp
theorem OwnR.append {m e len k bytes : Nat} {ao : Option Addr} {cells xs : List Value} {y : Value} {rd' : List Nat} (h : OwnR m g n e ao len cells) (hm : m ≤ n) (hl : lim ≤ m) (hlen : lenC y = some k) (hy : CS.firstCells (St n g lim rd wr) e k y = some (xs, St n g lim rd' wr)) (hx : xs.length = k * e) (ho : xs.all oneC = true) (he : 0 < e ∧ e < 1000)
    (hb : (len + k) * (bytes + 1) ≤ 1000000000) :
    ∃ ao' n' g', CS.append (St n g lim rd wr) e bytes ao len len y = some (.slice ao' (len + k) (len + k), St n' g' lim rd' wr) ∧ OwnR m g' n' e ao' (len + k) (cells ++ xs) ∧ n ≤ n' ∧ n' ≤ n + 1 ∧ ∀ i, i < m → g' i = g i := by
  have c1 : (Nat.blt 1000000000 ((len + k) * (bytes + 1)) || Nat.beq e 0 || Nat.ble 1000 e || not (xs.all oneC)) = false := by
    rw [blt_no hb, beq_no (by omega), ble_no (by omega), ho]; rfl
  obtain ⟨h1, h⟩ := h
  rcases h with ⟨rfl, rfl⟩ | ⟨f, u, rest, rfl, k2, k3, k4, k5, k6⟩
  · have hc : cells = [] := by simpa using h1
    subst hc
    cases hk : Nat.beq k 0 with
    | true =>
      have := Nat.eq_of_beq_eq_true hk
      subst this
      have hx0 : xs = [] := by simpa using hx
      subst hx0
      refine ⟨none, n, g, ?_, OwnR.nil _ _ _ _, Nat.le_refl _, by omega, fun _ _ => rfl⟩
      unfold CS.append
      rw [hlen]; simp only [hy, c1, cond_false, hk, cond_true]
    | false =>
      refine ⟨some (mkA n (n * 1024 + (e + 1)) 0), n + 1, fupd g n ⟨false, [(n * 1024 + (e + 1), xs)], none⟩, ?_, ⟨by simpa using hx, .inr ⟨n, _, [], rfl, ?_, hm, by omega, by omega, by omega⟩⟩, by omega, by omega, fun i hi => fupd_ne _ _ _ _ (by omega)⟩
      · unfold CS.append
        rw [hlen]; simp only [hy, c1, cond_false, hk, newRow_st, sliceC]
      · rw [fupd_same]; simp
  · cases hk : Nat.beq k 0 with
    | true =>
      have := Nat.eq_of_beq_eq_true hk
      subst this
      have hx0 : xs = [] := by simpa using hx
      subst hx0
      refine ⟨_, n, g, ?_, ⟨by simpa using h1, .inr ⟨f, u, rest, rfl, by simpa using k2, k3, k4, k5, k6⟩⟩, Nat.le_refl _, by omega, fun _ _ => rfl⟩
      unfold CS.append
      rw [hlen]; simp only [hy, c1, cond_false]
      rw [ble_ok (by omega)]; simp only [cond_true, hk]
      rfl
    | false =>
      have hk0 : k ≠ 0 := fun h => by rw [h] at hk; simp at hk
      have hfl : lim ≤ f := by omega
      have hold : (bif Nat.beq len 0 then some ([], St n g lim rd' wr) else CS.firstCells (St n g lim rd' wr) e len (.slice (some (mkA f u 0)) len len)) = some (cells, St n g lim rd' wr) := by
        cases hz : Nat.beq len 0 with
        | true =>
          have := Nat.eq_of_beq_eq_true hz
          subst this
          have : cells = [] := by simpa using h1
          rw [this]; rfl
        | false =>
          rw [cond_false, first_sl (cs := cells) (by rw [k2]; simp [rowOf, Nat.beq_refl]) (by omega) hfl]
          rw [List.drop_zero, List.take_of_length_le (by omega)]
      refine ⟨some (mkA f (n * 1024 + (e + 1)) 0), n + 1, fupd g f ⟨false, (n * 1024 + (e + 1), cells ++ xs) :: (u, cells) :: rest, none⟩, ?_, ⟨by rw [List.length_append, h1, hx, Nat.add_mul], .inr ⟨f, _, (u, cells) :: rest, rfl, ?_, k3, by omega, by omega, by omega⟩⟩, by omega, by omega, fun i hi => fupd_ne _ _ _ _ (by omega)⟩
      · unfold CS.append
        rw [hlen]
        simp only [hy, c1, cond_false]
        rw [ble_no (by omega)]
        simp only [cond_false, hold, ver_mk]
        rw [beq_no (by omega), beq_ok k6]
        simp only [cond_false, cond_true]
        unfold CS.grow
        show (match (g f).ro, rowOf (g f).rows u with | false, some cs => _ | _, _ => none) = _
        rw [k2]
        simp only
        have hrow : rowOf ((u, cells) :: rest) u = some cells := by simp [rowOf, Nat.beq_refl]
        rw [hrow]
        simp only
        rw [beq_ok (show (mkA f u 0).off + len * e = cells.length by rw [off_mk]; omega), sel_true, block_mk, objPut_inr]
        have hd : dropTo (objAt (.inr g) f).rows u = (u, cells) :: rest := by
          rw [objAt_inr, k2]; simp [dropTo, Nat.beq_refl]
        rw [ver_mk, hd, ins_ge wr hfl]
      · rw [fupd_same]
theorem op_append {x y : Operand} {t tx : TypeId} (hs : srcT Γ tx = true) : opBuiltin P Γ ρ o s .append [x, y] [t, tx] = opAppend Γ s t (ρ y) (ρ x) := by
  show sel (srcT Γ tx) _ none = _
  rw [hs]; rfl
end
end Go.Proofs.Ytfalnphlgfoflaa
namespace Go.Proofs.Ytfalnphlgfoflaa
open Go Go.RowKit
section
variable {P : Program} {Γ : Env} {ρ : Operand → Value} {s : CS} {d : Option Tmp} {ty : TypeId} {pos : String} {t t2 : TypeId} {x y : Operand} {e : Array Edge} {g : Option (Nat × Bool)}
theorem nilT_str (d : TypeDesc) (a : ByteArray) : nilT d (.string a) = none := by cases d <;> rfl
theorem nilT_bool (d : TypeDesc) (a : Bool) : nilT d (.bool a) = none := by cases d <;> rfl
theorem eqC_none {op : BinOp} {v w : Value} (h : ∀ d, nilT d v = none) : eqC Γ t op v w = none := by
  unfold eqC
  cases Γ.ti.at t with
  | none => rfl
  | some i => cases op <;> first | rfl | (simp only [h]; rfl)
theorem opBin_via {op : BinOp} {v w r : Value} {o : Oper} (ho : o.op = .binOp op t x y t2) (hx : ρ x = v) (hy : ρ y = w) (hc : binC op v w = none) (hn : ∀ d, nilT d v = none) (hpv : plainV 3 v = true) (hpw : plainV 3 w = true) (hg : eqGuard op t x y v w = pure ())
    (hr : eval0 P (binOp op t v w) = some r) (hp : plainV 3 r = true) : opBin P Γ ρ o s t op v w = some (r, s) := by
  unfold opBin
  rw [hc]
  simp only
  rw [eqC_none hn]
  simp only [orPure]
  unfold pureC
  have hops : (o.op.operands.toList.all fun z => plainV 3 (ρ z)) = true := by
    rw [ho]
    simp [Op.operands, hx, hy, hpv, hpw]
  rw [hops]
  have he : execOp ρ o = (do pure (.value (← binOp op t v w))) := by
    unfold execOp
    rw [ho]
    simp only [hx, hy, hg]
    simp
  rw [he]
  have hv : eval0 P (do pure (Next.value (← binOp op t v w))) = some (.value r) := by
    rw [eval0_bind hr]; rfl
  simp only [cond_true]
  rw [hv]
  show retC s (bif plainV 3 r then some r else none) = some (r, s)
  rw [hp]
  rfl
theorem str_beq (a b : ByteArray) : (a.toList == b.toList) = decide (a = b) := by
  rw [ByteArray.toList_eq, ByteArray.toList_eq]
  by_cases h : a = b
  · subst h; simp
  · rw [decide_eq_false h, beq_eq_false_iff_ne]
    intro k
    apply h
    apply ByteArray.ext
    exact Array.toList_inj.1 k
theorem eval0_equal_bool {a b : Bool} (hd : P.underlying t = some .bool) : eval0 P (Op.equal t (.bool a) (.bool b)) = some (a == b) := by
  unfold Op.equal
  show eval0 P (Op.equalIn (_ + 1) t (.bool a) (.bool b)) = _
  unfold Op.equalIn
  rw [eval0_bind (eval0_underlying hd)]
  rfl
theorem pick_on {v w : Value} {b : Bool} : opPick s v w (.bool b) = some (bif b then v else w, s) := Eq.trans rfl rfl
variable {k k' : IntKind} {a b : Int} {tys : Array TypeId}
theorem o_max (hx : ρ x = .int k a) (hy : ρ y = .int k' b) : opBuiltin P Γ ρ ⟨d, .call ⟨.builtin .max, #[x, y], tys⟩, ty, pos, e, g⟩ s .max [x, y] tys.toList = some (.int k (max a b), s) := by
  show retC s (pureC P ρ _) = _
  have hm : max a b = if b > a then b else a := by rw [Int.max_def]; split <;> split <;> omega
  rw [hm, pureC_of (r := .int k (if b > a then b else a))]
  · rfl
  · show (plainV 3 (ρ x) && (plainV 3 (ρ y) && true)) = true
    rw [hx, hy]; rfl
  · simp [execOp, hx, hy, resolve, invoke, builtin, Builtin.max_, Builtin.max2]
  · rfl
theorem o_min (hx : ρ x = .int k a) (hy : ρ y = .int k' b) : opBuiltin P Γ ρ ⟨d, .call ⟨.builtin .min, #[x, y], tys⟩, ty, pos, e, g⟩ s .min [x, y] tys.toList = some (.int k (min a b), s) := by
  show retC s (pureC P ρ _) = _
  have hm : min a b = if b < a then b else a := by rw [Int.min_def]; split <;> split <;> omega
  rw [hm, pureC_of (r := .int k (if b < a then b else a))]
  · rfl
  · show (plainV 3 (ρ x) && (plainV 3 (ρ y) && true)) = true
    rw [hx, hy]; rfl
  · simp [execOp, hx, hy, resolve, invoke, builtin, Builtin.min_, Builtin.min2]
  · rfl
end
section
variable {P : Program} {Γ : Env} {call : CallC} {ops l : List Oper} {fr : Fr} {s : CS} {d : Option Tmp} {op : Op} {ty : TypeId} {pos : String} {e : Array Edge} {g : Option (Nat × Bool)}
theorem callR_ax {f : FuncId} {args : List Value} {k : List Value → CS → Option (Value × CS)} {r : Value × CS} (h : Γ.ax f = some k) (hk : k args s = some r) : callR P Γ f args s = some r := by
  refine callR_of (n := 0) ?_
  unfold callC
  rw [h]
  exact hk
end
end Go.Proofs.Ytfalnphlgfoflaa
namespace Go.Proofs.Ytfalnphlgfoflaa
open Go Go.RowKit
section
variable {P : Program} {Γ : Env} {call : CallC} {ops l : List Oper} {o : Oper} {fr fr' : Fr} {s t : CS}
noncomputable def consLg (lg : Lg) (r : Option (List Lg × Fr × CS)) : Option (List Lg × Fr × CS) := match r with
  | some (logs, fr, s) => some (lg :: logs, fr, s)
  | none => none
noncomputable def thenD (s : CS) (r : Option (Fr × CS)) (k : Fr → CS → Option (List Lg × Fr × CS)) : Option (List Lg × Fr × CS) := match r with
  | some (fr, t) => consLg ⟨t.rd, t.wr, s.n, t.n⟩ (k fr (s.outer t))
  | none => none
theorem drawC_cons : drawC P Γ call ops (o :: l) fr s = thenD s (stepC P Γ call ops o fr s.inner) (drawC P Γ call ops l) := by
  rw [drawC]
  cases stepC P Γ call ops o fr s.inner with
  | none => rfl
  | some r =>
    show (match drawC P Γ call ops l r.1 (s.outer r.2) with | some (logs, fr, s') => _ | none => none) = consLg _ (drawC P Γ call ops l r.1 (s.outer r.2))
    cases drawC P Γ call ops l r.1 (s.outer r.2) with
    | none => rfl
    | some x => rfl
variable {n lim n' : Nat} {g g' : Nat → Fam} {rd wr rd' wr' : List Nat} {ob ob' : Sto}
theorem calm_ms {n0 : Nat} {logs : List Lg} {ms : List Nat} (hm : masks ops [] = ms) (h : calmAll clash [] logs ms = true) : calm n0 ops logs = true := by
  unfold calm
  rw [hm, h]
  cases logs.all _ <;> rfl
theorem calmAll_nil {ms : List Nat} {done : List Lg} : calmAll clash done [] ms = true := Eq.trans rfl rfl
theorem calmAll_cons {ms : List Nat} {done logs : List Lg} {y : Lg} : calmAll clash done (y :: logs) ms = (calmOne clash (nth 0 ms done.length) y done 0 && calmAll clash (done ++ [y]) logs ms) := Eq.trans rfl rfl
theorem calmOne_set {m i : Nat} {x y : Lg} {done : List Lg} (h : Nat.testBit m i = true) : calmOne clash m y (x :: done) i = calmOne clash m y done (i + 1) := by
  show ((Nat.testBit m i || _) && _) = _
  rw [h]; rfl
theorem calmOne_ok {m i : Nat} {x y : Lg} {done : List Lg} (h : clash x y = false) : calmOne clash m y (x :: done) i = calmOne clash m y done (i + 1) := by
  show ((Nat.testBit m i || !clash x y) && _) = _
  rw [h]; simp
theorem clash_gen {rx wx ry wy : List Nat} {lo hi lo' hi' : Nat} (h1 : ∀ f, f ∈ wx → f ∉ ry ∧ f ∉ wy) (h2 : ∀ f, f ∈ rx → f ∉ wy) (hr : ∀ f, f ∈ ry → f < lo ∨ hi ≤ f) (hw : ∀ f, f ∈ wy → f < lo ∨ hi ≤ f) : clash ⟨rx, wx, lo, hi⟩ ⟨ry, wy, lo', hi'⟩ = false := by
  have hq : ∀ l : List Nat, (∀ f, f ∈ l → f < lo ∨ hi ≤ f) → within lo hi l = false := by
    intro l hl
    unfold within
    rw [List.any_eq_false]
    intro f hf
    rcases hl f hf with h | h
    · simp [ble_no h]
    · simp [blt_no h]
  have hm : ∀ a b : List Nat, (∀ f, f ∈ a → f ∉ b) → meet a b = false := by
    intro a b hab
    unfold meet
    rw [List.any_eq_false]
    intro f hf hc
    exact hab f hf (has_mem hc)
  unfold clash
  simp [hq ry hr, hq wy hw, hm wx ry fun f hf => (h1 f hf).1, hm wx wy fun f hf => (h1 f hf).2, hm rx wy h2]
theorem W.draw_ex {id : Nat} {ops : Array Oper} {Q : Exit → Fr → CS → Prop} {logs : List Lg} {ms : List Nat} (hm : masks ops.toList [] = ms) (h : drawC P Γ (callR P Γ) ops.toList ops.toList fr s = some (logs, fr', t)) (hc : calmAll clash [] logs ms = true) (hq : Q .normal fr' t) : W P Γ (.region id ops true) fr s Q :=
  W.draw h (calm_ms hm hc) hq
variable {ρ : Operand → Value}
section
variable {ty t2 src dst : TypeId} {d : Option Tmp} {pos : String} {e : Array Edge} {q : Option (Nat × Bool)} {x y : Operand} {tt : TypeId} {k : IntKind} {z b z2 b2 : Nat} {zs zs2 : List Value}
end
structure BSl (g : Nat → Fam) (n f u off len cap : Nat) (bs : List UInt8) : Prop where
  lt : f < n
  tag : u % 1024 = 0 ∨ u % 1024 = 2
  fits : len ≤ cap
  size : bs.length = len
  row : ∃ cs, rowOf (g f).rows u = some cs ∧ ∀ i, i < len → cs[off + i]? = some (vb (bs.getD i 0))
end
end Go.Proofs.Ytfalnphlgfoflaa
namespace Go.Proofs.Ytfalnphlgfoflaa
open Go Go.RowKit
section
variable {P : Program} {Γ : Env} {call : CallC} {ops l : List Oper} {o o' : Oper} {fr fr' : Fr} {s t : CS}
noncomputable def thenL (n0 : Nat) (s : CS) (r : Option (Fr × CS)) (k : Fr → CS → Option (Fr × CS)) : Option (Fr × CS) := match r with
  | some (fr, t) => bif (t.wr.isEmpty && t.rd.all fun f => Nat.blt f n0) && Nat.ble n0 s.n then k fr (s.outer t) else none
  | none => none
noncomputable def lastL (s : CS) (r : Option (Fr × CS)) : Option (Fr × CS) := match r with
  | some (fr, t) => some (fr, s.outer t)
  | none => none
noncomputable def quietL (P : Program) (Γ : Env) (call : CallC) (ops : List Oper) (n0 : Nat) : List Oper → Fr → CS → Option (Fr × CS)
  | [], _, _ => none
  | [o], fr, s => lastL s (stepC P Γ call ops o fr s.inner)
  | o :: o' :: l, fr, s => thenL n0 s (stepC P Γ call ops o fr s.inner) (quietL P Γ call ops n0 (o' :: l))
theorem quietL_one {n0 : Nat} : quietL P Γ call ops n0 [o] fr s = lastL s (stepC P Γ call ops o fr s.inner) := Eq.trans rfl rfl
theorem quietL_cons {n0 : Nat} : quietL P Γ call ops n0 (o :: o' :: l) fr s = thenL n0 s (stepC P Γ call ops o fr s.inner) (quietL P Γ call ops n0 (o' :: l)) := Eq.trans rfl rfl
def QLog (n0 : Nat) (x : Lg) : Prop := x.wr = [] ∧ (∀ f, f ∈ x.rd → f < n0) ∧ n0 ≤ x.lo
theorem draw_last {n0 : Nat} : ∀ {l : List Oper} {fr fr' : Fr} {s s' : CS}, quietL P Γ call ops n0 l fr s = some (fr', s') → ∃ logs y, drawC P Γ call ops l fr s = some (logs ++ [y], fr', s') ∧ logs.length + 1 = l.length ∧ ∀ x, x ∈ logs → QLog n0 x
  | [], fr, fr', s, s', h => by simp [quietL] at h
  | [o], fr, fr', s, s', h => by
    rw [quietL_one] at h
    unfold lastL at h
    split at h
    · rename_i fr1 t h1
      simp only [Option.some.injEq, Prod.mk.injEq] at h
      obtain ⟨rfl, rfl⟩ := h
      refine ⟨[], ⟨t.rd, t.wr, s.n, t.n⟩, ?_, rfl, fun x hx => by simp at hx⟩
      rw [drawC_cons, h1]
      rfl
    · simp at h
  | o :: o' :: l, fr, fr', s, s', h => by
    rw [quietL_cons] at h
    unfold thenL at h
    split at h
    · rename_i fr1 t h1
      cases hq : (t.wr.isEmpty && t.rd.all fun f => Nat.blt f n0) && Nat.ble n0 s.n with
      | false => rw [hq] at h; simp at h
      | true =>
        rw [hq] at h
        simp only [cond_true] at h
        obtain ⟨logs, y, h2, h3, h4⟩ := draw_last h
        refine ⟨⟨t.rd, t.wr, s.n, t.n⟩ :: logs, y, ?_, ?_, ?_⟩
        · rw [drawC_cons, h1]
          unfold thenD
          simp only
          rw [h2]
          rfl
        · simp only [List.length_cons] at h3 ⊢; omega
        · intro x hx
          rcases List.mem_cons.1 hx with rfl | hx
          · simp only [Bool.and_eq_true, List.isEmpty_iff, List.all_eq_true] at hq
            exact ⟨hq.1.1, fun f hf => blt_iff.1 (hq.1.2 f hf), ble_iff.1 hq.2⟩
          · exact h4 x hx
    · simp at h
theorem clash_quiet {n0 : Nat} {x y : Lg} (hx : QLog n0 x) (hy : QLog n0 y) : clash x y = false := by
  obtain ⟨rx, wx, lx, hx'⟩ := x
  obtain ⟨ry, wy, ly, hy'⟩ := y
  obtain ⟨rfl, x2, x3⟩ := hx
  obtain ⟨rfl, y2, y3⟩ := hy
  refine clash_gen (fun f hf => by simp at hf) (fun f _ => by simp) (fun f hf => .inl ?_) (fun f hf => by simp at hf)
  have := y2 f hf
  exact Nat.lt_of_lt_of_le this x3
theorem calmOne_quiet {n0 m : Nat} {y : Lg} (hy : QLog n0 y) : ∀ {done : List Lg} {i : Nat}, (∀ x, x ∈ done → QLog n0 x) → calmOne clash m y done i = true
  | [], _, _ => rfl
  | x :: l, i, h => by
    rw [calmOne_ok (clash_quiet (h x (by simp)) hy)]
    exact calmOne_quiet hy fun z hz => h z (by simp [hz])
theorem calmOne_full {k : Nat} {y : Lg} : ∀ {done : List Lg} {i : Nat}, done.length + i ≤ k → calmOne clash (2 ^ k - 1) y done i = true
  | [], _, _ => rfl
  | x :: l, i, h => by
    rw [List.length_cons] at h
    rw [calmOne_set (by rw [Nat.testBit_two_pow_sub_one]; exact decide_eq_true (by omega))]
    exact calmOne_full (by omega)
theorem calmAll_last {n0 : Nat} {y : Lg} {ms : List Nat} : ∀ {logs done : List Lg}, (∀ x, x ∈ done → QLog n0 x) → (∀ x, x ∈ logs → QLog n0 x) → nth 0 ms (done.length + logs.length) = 2 ^ (done.length + logs.length) - 1 → calmAll clash done (logs ++ [y]) ms = true
  | [], done, hd, _, hm => by
    rw [List.nil_append, calmAll_cons]
    simp only [List.length_nil, Nat.add_zero] at hm
    rw [hm, calmOne_full (by omega), calmAll_nil]; rfl
  | x :: l, done, hd, hl, hm => by
    rw [List.cons_append, calmAll_cons, calmOne_quiet (hl x (by simp)) hd]
    simp only [Bool.true_and]
    refine calmAll_last (n0 := n0) ?_ (fun z hz => hl z (by simp [hz])) ?_
    · intro z hz
      rcases List.mem_append.1 hz with hz | hz
      · exact hd z hz
      · simp at hz; subst hz; exact hl _ (by simp)
    · rw [List.length_append, List.length_singleton]
      rw [List.length_cons] at hm
      rw [show done.length + 1 + l.length = done.length + (l.length + 1) by omega]
      exact hm
noncomputable def fullLast (ops : List Oper) : Bool := Nat.beq (nth 0 (masks ops []) (ops.length - 1)) (2 ^ (ops.length - 1) - 1)
theorem W.last {id : Nat} {ops : Array Oper} {Q : Exit → Fr → CS → Prop} (hf : fullLast ops.toList = true) (h : quietL P Γ (callR P Γ) ops.toList s.n ops.toList fr s = some (fr', t)) (hq : Q .normal fr' t) : W P Γ (.region id ops true) fr s Q := by
  obtain ⟨logs, y, h1, h2, h3⟩ := draw_last h
  refine W.draw_ex rfl h1 (calmAll_last (n0 := s.n) (fun x hx => by simp at hx) h3 ?_) hq
  have hk : ops.toList.length - 1 = logs.length := by omega
  have := Nat.eq_of_beq_eq_true hf
  rw [hk] at this
  simpa using this
variable {n lim n' f : Nat} {rd wr rd' wr' : List Nat} {ob ob' : Sto} {k : Fr → CS → Option (Fr × CS)}
variable {g : Nat → Fam}
end
end Go.Proofs.Ytfalnphlgfoflaa
namespace Go.Proofs.Ytfalnphlgfoflaa
open Go Go.RowKit
section
variable {P : Program} {G L : List Nat} {ax : Axs}
open Classical in
structure Seg where
  b : Nat
  o : Nat
  cs : List Value
def segRows (N : Nat) (f : Nat) : Nat → List Seg → List (Nat × List Value)
  | _, [] => []
  | j, q :: l => if q.b = f then ((N + j) * 1024, q.cs) :: segRows N f (j + 1) l else segRows N f (j + 1) l
def famS (N : Nat) (K : List (Nat × List Value)) (A : List Seg) (f : Nat) : Fam := ⟨true, (famK K f).rows ++ segRows N f 0 A, none⟩
open Classical in
noncomputable def sgS (N : Nat) (G : List Nat) (K : List (Nat × List Value)) (A : List Seg) : Sg := fun f u =>
  if has G f = true ∧ u = f * 1024 then some (f, 0, (famK K f).rows.head?.elim 0 fun p => p.2.length)
  else if u % 1024 = 0 ∧ N ≤ u / 1024 then (match A[u / 1024 - N]? with
    | some q => if q.b = f then some (f, q.o, q.o + q.cs.length) else none
    | none => none) else none
def SegAt (σ : Sg) (w : World) (q : Seg) : Prop := q.b < w.heap.size ∧ (∀ j, j < q.o + q.cs.length → (w.cell? ⟨q.b, j, none⟩).isSome = true) ∧ ∀ (j : Nat) (u : Value), q.cs[j]? = some u → ∃ u', w.cell? ⟨q.b, q.o + j, none⟩ = some u' ∧ VR σ u u'
theorem segRows_mem {N f : Nat} {p : Nat × List Value} : ∀ {A : List Seg} {j : Nat}, p ∈ segRows N f j A → ∃ i q, A[i]? = some q ∧ q.b = f ∧ p = ((N + (j + i)) * 1024, q.cs)
  | [], j, h => by simp [segRows] at h
  | q :: l, j, h => by
    unfold segRows at h
    split at h
    · rename_i hq
      rcases List.mem_cons.1 h with rfl | h
      · exact ⟨0, q, rfl, hq, by rw [Nat.add_zero]⟩
      · obtain ⟨i, q', h1, h2, h3⟩ := segRows_mem h
        exact ⟨i + 1, q', by simpa using h1, h2, by rw [h3]; congr 2; omega⟩
    · obtain ⟨i, q', h1, h2, h3⟩ := segRows_mem h
      exact ⟨i + 1, q', by simpa using h1, h2, by rw [h3]; congr 2; omega⟩
theorem start_rel {N : Nat} {K : List (Nat × List Value)} {A : List Seg} {w : World} (hN : N = w.heap.size) (hK : ∀ p, p ∈ K → has G p.1 = true) (hw : GlobsAt w K) (hwG : ∀ g, has G g = true → g < w.heap.size) (hA : ∀ q, q ∈ A → SegAt (sgS N G K A) w q) :
    Rel (sgS N G K A) (fun _ => True) (St (N + A.length) (famS N K A) 0 [] []) w ∧ CInv (St (N + A.length) (famS N K A) 0 [] []) ∧ GlobOk G (sgS N G K A) ∧ (∀ f u p, sgS N G K A f u = some p → f < N + A.length ∧ u / 1024 < N + A.length ∧ (objAt (St (N + A.length) (famS N K A) 0 [] []).obj f).ro = true) := by
  have hσ : ∀ f u b o z, sgS N G K A f u = some (b, o, z) → b = f ∧ ((has G f = true ∧ u = f * 1024 ∧ o = 0 ∧ z = (famK K f).rows.head?.elim 0 fun p => p.2.length) ∨ (∃ i q, A[i]? = some q ∧ q.b = f ∧ u = (N + i) * 1024 ∧ o = q.o ∧ z = q.o + q.cs.length)) := by
    intro f u b o z h
    unfold sgS at h
    split at h
    · rename_i hc
      simp only [Option.some.injEq, Prod.mk.injEq] at h
      exact ⟨h.1.symm, .inl ⟨hc.1, hc.2, h.2.1.symm, h.2.2.symm⟩⟩
    · split at h
      · rename_i hc
        split at h
        · rename_i q hq
          split at h
          · rename_i hb
            simp only [Option.some.injEq, Prod.mk.injEq] at h
            refine ⟨h.1.symm, .inr ⟨_, q, hq, hb, by omega, h.2.1.symm, h.2.2.symm⟩⟩
          · simp at h
        · simp at h
      · simp at h
  have hlt : ∀ f u b o z, sgS N G K A f u = some (b, o, z) → b < w.heap.size ∧ f < N + A.length ∧ u / 1024 < N + A.length := by
    intro f u b o z h
    obtain ⟨rfl, ⟨h1, h2, _⟩ | ⟨i, q, h1, h2, h3, _⟩⟩ := hσ _ _ _ _ _ h
    · have := hwG _ h1; omega
    · have hm := List.mem_of_getElem? h1
      have hi : i < A.length := (List.getElem?_eq_some_iff.1 h1).1
      have := (hA q hm).1
      omega
  have hrows : ∀ f p, p ∈ (famS N K A f).rows → ((p.1 = f * 1024 ∧ (f, p.2) ∈ K ∧ (famK K f).rows = [p]) ∨ ∃ i q, A[i]? = some q ∧ q.b = f ∧ p = ((N + i) * 1024, q.cs)) := by
    intro f p hp
    rcases List.mem_append.1 hp with hp | hp
    · exact .inl (famK_rows hp)
    · obtain ⟨i, q, h1, h2, h3⟩ := segRows_mem hp
      exact .inr ⟨i, q, h1, h2, by rw [h3, Nat.zero_add]⟩
  have hnone : ∀ f, N + A.length ≤ f → famS N K A f = famNone := by
    intro f hf
    have : (famS N K A f).rows = [] := by
      rw [List.eq_nil_iff_forall_not_mem]
      intro p hp
      rcases hrows f p hp with ⟨_, h2, _⟩ | ⟨i, q, h1, h2, _⟩
      · have := hwG _ (hK _ h2); simp only at this; omega
      · have := (hA q (List.mem_of_getElem? h1)).1; omega
    unfold famS at this ⊢
    simp only at this
    rw [this]; rfl
  have hvers : ∀ f p, p ∈ (famS N K A f).rows → p.1 / 1024 < N + A.length := by
    intro f p hp
    rcases hrows f p hp with ⟨h1, h2, _⟩ | ⟨i, q, h1, h2, rfl⟩
    · have := hwG _ (hK _ h2); simp only at this; omega
    · have hi : i < A.length := (List.getElem?_eq_some_iff.1 h1).1
      simp only; omega
  refine ⟨⟨?_, fun f u b o z h => (hlt f u b o z h).1, ?_, fun f hf => hnone f hf, fun f p hp => hvers f p hp⟩, ⟨fun f hf => hnone f hf, fun f p hp => hvers f p hp, Nat.zero_le _⟩, ?_, fun f u p h => ⟨(hlt f u _ _ _ h).2.1, (hlt f u _ _ _ h).2.2, rfl⟩⟩
  · intro f u b o z f' u' o' z' h1 h2
    have a1 := (hσ _ _ _ _ _ h1).1
    have a2 := (hσ _ _ _ _ _ h2).1
    omega
  · intro f _
    refine ⟨fun p hp b o z h => ?_, fun hro => by simp [objAt, famS] at hro, fun es he => by simp [objAt, famS] at he⟩
    obtain ⟨rfl, hs⟩ := hσ _ _ _ _ _ h
    rcases hrows b p hp with ⟨h1, h2, h3⟩ | ⟨i, q, h1, h2, rfl⟩
    · rcases hs with ⟨g1, g2, rfl, rfl⟩ | ⟨i, q, g1, g2, g3, _⟩
      · rw [h3]
        simp only [List.head?_cons, Option.elim]
        refine ⟨by omega, fun j hj => ?_, fun hro => by simp [objAt, famS] at hro, fun j u hu => ?_⟩
        · obtain ⟨k1, _⟩ := (hw _ h2).2 j _ (List.getElem?_eq_getElem hj)
          rw [k1]; rfl
        · obtain ⟨k1, k2⟩ := (hw _ h2).2 j u hu
          rw [Nat.zero_add]
          exact ⟨u, k1, plain_refl 3 k2⟩
      · have := hwG _ (hK _ h2); simp only at this; omega
    · rcases hs with ⟨g1, g2, _, _⟩ | ⟨i', q', g1, g2, g3, rfl, rfl⟩
      · simp only at g2
        have := hwG _ g1
        omega
      · simp only at g3
        have : i' = i := by omega
        subst this
        rw [h1] at g1
        cases g1
        obtain ⟨a1, a2, a3⟩ := hA q (List.mem_of_getElem? h1)
        subst h2
        exact ⟨Nat.le_refl _, a2, fun hro => by simp [objAt, famS] at hro, a3⟩
  · intro g hg
    exact ⟨_, if_pos ⟨hg, rfl⟩⟩
end
end Go.Proofs.Ytfalnphlgfoflaa
namespace Go.Proofs.Ytfalnphlgfoflaa
open Go Go.RowKit
def Ret (P : Program) (Γ : Env) (f : FuncId) (args : List Value) (n : Nat) (g : Nat → Fam) (lim : Nat) (rd wr : List Nat) (R : Nat → Prop) (v : Value) : Prop :=
  ∃ n' g' rd', callR P Γ f args (St n g lim rd wr) = some (v, St n' g' lim rd' wr) ∧ n ≤ n' ∧ (∀ i, i < n → g' i = g i) ∧ (∀ x, x ∈ rd' → x ∈ rd ∨ (R x ∧ x < lim))
section
variable {P : Program} {Γ : Env} {ρ : Operand → Value} {s : CS} {fr : Fr} {n lim n' f n0 : Nat} {g : Nat → Fam} {rd wr rd' : List Nat} {ob ob' : Sto}
theorem Ret.of {f : FuncId} {fn : Func} {body : Code} {args : List Value} {R : Nat → Prop} {v : Value} (k : Nat) (hax : Γ.ax f = none) (hf : Γ.fn.at f = some fn) (hb : fn.body = some body) (hn : fn.ntmps = k) (hl : args.length ≤ k)
    (h : W P Γ body (Fr.ofArgs args 0 (Fr.of k fun _ => undef)) (St n g lim rd wr) fun e fr' s1 => (e = .normal ∨ e = .ret) ∧ ∃ n' g' rd', resC Γ fr' s1 fn.results.toList = some ([v], St n' g' lim rd' wr) ∧ n ≤ n' ∧ (∀ i, i < n → g' i = g i) ∧ (∀ x, x ∈ rd' → x ∈ rd ∨ (R x ∧ x < lim))) : Ret P Γ f args n g lim rd wr R v := by
  obtain ⟨e, fr', s1, h1, he, n', g', rd', hr, h2⟩ := h
  exact ⟨n', g', rd', callR_go k hax hf hb hn hl ⟨e, fr', s1, h1, he, _, hr, rfl⟩, h2⟩
theorem insAll_mem {l : List Nat} : ∀ {rd rd' : List Nat}, l = rd' → ∀ x, x ∈ insAll lim rd l → x ∈ rd ∨ (x ∈ rd' ∧ x < lim) := by
  induction l with
  | nil => rintro rd rd' rfl x hx; exact .inl hx
  | cons y l ih =>
    rintro rd rd' rfl x hx
    rcases ih rfl x hx with h | h
    · rcases mem_ins h with h | h
      · exact .inl h
      · exact .inr ⟨by simp [h.1], h.2⟩
    · exact .inr ⟨by simp [h.1], h.2⟩
def OwnX (m : Nat) (g : Nat → Fam) (n e : Nat) (ao : Option Addr) (len : Nat) (cells : List Value) : Prop :=
  OwnR m g n e ao len cells ∨ (cells.length = len * e ∧ ∃ f u rest, ao = some (mkA f u 0) ∧ g f = ⟨false, (u, cells) :: rest, none⟩ ∧ m ≤ f ∧ f < n ∧ u / 1024 < n ∧ u % 1024 = 0)
theorem OwnX.keep {m n' e len : Nat} {g' : Nat → Fam} {ao : Option Addr} {cells : List Value} (h : OwnX m g n e ao len cells) (hg : ∀ i, m ≤ i → i < n → g' i = g i) (hn : n ≤ n') : OwnX m g' n' e ao len cells := by
  rcases h with h | ⟨h1, f, u, rest, k1, k2, k3, k4, k5, k6⟩
  · exact .inl (h.keep hg hn)
  · exact .inr ⟨h1, f, u, rest, k1, by rw [hg f k3 k4]; exact k2, k3, by omega, by omega, k6⟩
theorem OwnX.first {m e len k : Nat} {ao : Option Addr} {cells : List Value} (h : OwnX m g n e ao len cells) (hl : lim ≤ m) (hk : k ≤ len) : CS.firstCells (St n g lim rd wr) e k (.slice ao len len) = some (cells.take (k * e), St n g lim rd wr) := by
  rcases h with h | ⟨h1, f, u, rest, rfl, k2, k3, k4, k5, k6⟩
  · exact h.first hl hk
  · have hkl : k * e ≤ len * e := Nat.mul_le_mul_right e hk
    rw [first_sl (cs := cells) (by rw [k2]; simp [rowOf, Nat.beq_refl]) (by omega) (by omega)]
    simp
theorem OwnX.append {m e len k bytes : Nat} {ao : Option Addr} {cells xs : List Value} {y : Value} {rd' : List Nat} (h : OwnX m g n e ao len cells) (hm : m ≤ n) (hl : lim ≤ m) (hlen : lenC y = some k) (hy : CS.firstCells (St n g lim rd wr) e k y = some (xs, St n g lim rd' wr)) (hx : xs.length = k * e) (ho : xs.all oneC = true) (he : 0 < e ∧ e < 1000)
    (hb : (len + k) * (bytes + 1) ≤ 1000000000) :
    ∃ ao' n' g', CS.append (St n g lim rd wr) e bytes ao len len y = some (.slice ao' (len + k) (len + k), St n' g' lim rd' wr) ∧ OwnX m g' n' e ao' (len + k) (cells ++ xs) ∧ n ≤ n' ∧ n' ≤ n + 1 ∧ ∀ i, i < m → g' i = g i := by
  rcases h with h | ⟨h1, f, u, rest, rfl, k2, k3, k4, k5, k6⟩
  · obtain ⟨ao', n', g', a1, a2, a3⟩ := h.append hm hl hlen hy hx ho he hb
    exact ⟨ao', n', g', a1, .inl a2, a3⟩
  · have c1 : (Nat.blt 1000000000 ((len + k) * (bytes + 1)) || Nat.beq e 0 || Nat.ble 1000 e || not (xs.all oneC)) = false := by
      rw [blt_no hb, beq_no (by omega), ble_no (by omega), ho]; rfl
    cases hk : Nat.beq k 0 with
    | true =>
      have := Nat.eq_of_beq_eq_true hk
      subst this
      have hx0 : xs = [] := by simpa using hx
      subst hx0
      refine ⟨_, n, g, ?_, .inr ⟨by simpa using h1, f, u, rest, rfl, by simpa using k2, k3, k4, k5, k6⟩, Nat.le_refl _, by omega, fun _ _ => rfl⟩
      unfold CS.append
      rw [hlen]; simp only [hy, c1, cond_false]
      rw [ble_ok (by omega)]; simp only [cond_true, hk]
      rfl
    | false =>
      have hk0 : k ≠ 0 := fun h => by rw [h] at hk; simp at hk
      have hfl : lim ≤ f := by omega
      have hold : (bif Nat.beq len 0 then some ([], St n g lim rd' wr) else CS.firstCells (St n g lim rd' wr) e len (.slice (some (mkA f u 0)) len len)) = some (cells, St n g lim rd' wr) := by
        cases hz : Nat.beq len 0 with
        | true =>
          have := Nat.eq_of_beq_eq_true hz
          subst this
          have : cells = [] := by simpa using h1
          rw [this]; rfl
        | false =>
          rw [cond_false, first_sl (cs := cells) (by rw [k2]; simp [rowOf, Nat.beq_refl]) (by omega) hfl]
          rw [List.drop_zero, List.take_of_length_le (by omega)]
      refine ⟨some (mkA n (n * 1024 + (e + 1)) 0), n + 1, fupd g n ⟨false, [(n * 1024 + (e + 1), cells ++ xs)], none⟩, ?_, .inl ⟨by rw [List.length_append, h1, hx, Nat.add_mul], .inr ⟨n, _, [], rfl, fupd_same _ _ _, hm, by omega, by omega, by omega⟩⟩, by omega, by omega, fun i hi => fupd_ne _ _ _ _ (by omega)⟩
      unfold CS.append
      rw [hlen]
      simp only [hy, c1, cond_false]
      rw [ble_no (by omega)]
      simp only [cond_false, hold, ver_mk]
      rw [beq_ok k6]
      simp only [cond_true, newRow_st, sliceC]
theorem OwnX.push {m len bytes : Nat} {ao : Option Addr} {cells : List Value} {v : Value} (h : OwnX m g n 1 ao len cells) (hm : m ≤ n) (hl : lim ≤ m) (hv : oneC v = true) (hb : (len + 1) * (bytes + 1) ≤ 1000000000) :
    ∃ ao' n' g', CS.append (St (n + 1) (fupd g n ⟨false, [(n * 1024 + 0, [v])], none⟩) lim rd wr) 1 bytes ao len len (.slice (some (mkA n (n * 1024 + 0) 0)) 1 1) = some (.slice ao' (len + 1) (len + 1), St n' g' lim rd wr) ∧ OwnX m g' n' 1 ao' (len + 1) (cells ++ [v]) ∧ n + 1 ≤ n' ∧ n' ≤ n + 2 ∧ ∀ i, i < m → g' i = g i := by
  have h2 := h.keep (n' := n + 1) (g' := fupd g n ⟨false, [(n * 1024 + 0, [v])], none⟩) (fun i _ hi => fupd_ne _ _ _ _ (by omega)) (by omega)
  obtain ⟨ao', n', g', a1, a2, a3, a4, a5⟩ := h2.append (bytes := bytes) (rd := rd) (wr := wr) (rd' := rd) (xs := [v]) (k := 1) (y := .slice (some (mkA n (n * 1024 + 0) 0)) 1 1) (by omega) hl rfl
    (by rw [first_sl (cs := [v]) (by rw [fupd_same]; exact rowOf_one) (by simp) (by omega)]; rfl) rfl (by simp [hv]) (by omega) hb
  exact ⟨ao', n', g', a1, a2, a3, by omega, fun i hi => by rw [a5 i hi, fupd_ne _ _ _ _ (by omega)]⟩
section
variable {call : CallC} {d : Option Tmp} {ty : TypeId} {pos : String} {e : Array Edge} {q : Option (Nat × Bool)}
end
theorem W.cut {a : Code} {Q : Exit → Fr → CS → Prop} {k : Fr → CS → Prop} (R : Fr → CS → Prop) (h : W P Γ a fr s fun e fr s => e = .normal ∧ R fr s) (hk : ∀ fr s, R fr s → k fr s) : W P Γ a fr s (onN k Q) := by
  refine h.mono ?_
  rintro e fr s ⟨rfl, hR⟩
  exact hk _ _ hR
end
end Go.Proofs.Ytfalnphlgfoflaa
