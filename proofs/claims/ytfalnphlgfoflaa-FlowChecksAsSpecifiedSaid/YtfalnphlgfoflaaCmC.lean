/- The plain machine by hand: rules to follow a function over unknown data. No program in sight. -/
import Derived.Test.YtfalnphlgfoflaaCmB
import Derived.Laws.Strings
set_option linter.unusedSimpArgs false
set_option linter.unusedVariables false
set_option linter.unusedSectionVars false
namespace Go.Proofs.Ytfalnphlgfoflaa
open Go Go.RowKit
section
variable {P : Program} {Γ : Env}
def CallLe (c c' : CallC) : Prop := ∀ f args s r, c f args s = some r → c' f args s = some r
theorem cop_le {call call' : CallC} (h : CallLe call call') {ρ : Operand → Value} {o : Oper} {s : CS} {r : Value × CS} (hc : cop P Γ call ρ o s = some r) : cop P Γ call' ρ o s = some r := by
  obtain ⟨dst, op, type, pos, after, guard⟩ := o
  unfold cop at hc ⊢
  cases op with
  | call c =>
    simp only at hc ⊢
    split at hc
    · rename_i f hf
      unfold opCall at hc ⊢
      split at hc
      · exact h _ _ _ _ hc
      · simp at hc
    · exact hc
    · simp at hc
  | makeMap t r => cases r <;> exact hc
  | _ => exact hc
theorem stepC_le {call call' : CallC} (h : CallLe call call') {ops : List Oper} {o : Oper} {fr : Fr} {s : CS} {r : Fr × CS} (hc : stepC P Γ call ops o fr s = some r) : stepC P Γ call' ops o fr s = some r := by
  unfold stepC at hc ⊢
  cases hw : wantedC ops fr o with
  | false => rw [hw] at hc; exact hc
  | true =>
    rw [hw] at hc
    simp only [cond_true] at hc ⊢
    split at hc
    · rename_i h1
      rw [cop_le h h1]
      exact hc
    · simp at hc
theorem runC_le {call call' : CallC} (h : CallLe call call') {ops : List Oper} : ∀ {l : List Oper} {fr : Fr} {s : CS} {r : Fr × CS}, runC P Γ call ops l fr s = some r → runC P Γ call' ops l fr s = some r
  | [], _, _, _, hc => hc
  | o :: l, fr, s, r, hc => by
    simp only [runC] at hc ⊢
    split at hc
    · rename_i h1
      rw [stepC_le h h1]
      exact runC_le h hc
    · simp at hc
theorem drawC_le {call call' : CallC} (h : CallLe call call') {ops : List Oper} : ∀ {l : List Oper} {fr : Fr} {s : CS} {r : List Lg × Fr × CS}, drawC P Γ call ops l fr s = some r → drawC P Γ call' ops l fr s = some r
  | [], _, _, _, hc => hc
  | o :: l, fr, s, r, hc => by
    simp only [drawC] at hc ⊢
    split at hc
    · rename_i h1
      rw [stepC_le h h1]
      simp only
      split at hc
      · rename_i h2
        rw [drawC_le h h2]
        exact hc
      · simp at hc
    · simp at hc
theorem mono_step : ∀ n, (∀ c fr s r, cm P Γ n c fr s = some r → cm P Γ (n + 1) c fr s = some r) ∧ CallLe (callC P Γ n) (callC P Γ (n + 1)) := by
  intro n
  induction n with
  | zero =>
    refine ⟨fun c fr s r h => by simp [cm] at h, ?_⟩
    intro f args s r h
    unfold callC at h ⊢
    split at h
    · rename_i hx hax
      exact h
    rename_i hax
    split at h
    · split at h
      · simp only [cm, sel_eq] at h
        split at h
        · rename_i hq; split at hq <;> simp at hq
        · rename_i hq; split at hq <;> simp at hq
        · simp at h
      · simp at h
    · simp at h
  | succ n ih =>
    obtain ⟨ih1, ih2⟩ := ih
    have hcode : ∀ c fr s r, cm P Γ (n + 1) c fr s = some r → cm P Γ (n + 1 + 1) c fr s = some r := by
      intro c fr s r h
      cases c with
      | region id ops draw =>
        have h' : (bif draw then match drawC P Γ (callC P Γ n) ops.toList ops.toList fr s with
            | some (logs, fr, t) => bif calm s.n ops.toList logs then some (Exit.normal, fr, t) else none
            | none => none
          else match runC P Γ (callC P Γ n) ops.toList ops.toList fr s with
            | some (fr, s) => some (Exit.normal, fr, s)
            | none => none) = some r := h
        show (bif draw then match drawC P Γ (callC P Γ (n + 1)) ops.toList ops.toList fr s with
            | some (logs, fr, t) => bif calm s.n ops.toList logs then some (Exit.normal, fr, t) else none
            | none => none
          else match runC P Γ (callC P Γ (n + 1)) ops.toList ops.toList fr s with
            | some (fr, s) => some (Exit.normal, fr, s)
            | none => none) = some r
        cases draw with
        | true =>
          simp only [cond_true] at h' ⊢
          split at h'
          · rename_i h1
            rw [drawC_le ih2 h1]
            exact h'
          · simp at h'
        | false =>
          simp only [cond_false] at h' ⊢
          split at h'
          · rename_i h1
            rw [runC_le ih2 h1]
            exact h'
          · simp at h'
      | seq a b =>
        simp only [cm] at h
        rw [cm]
        split at h
        · rename_i h1
          rw [ih1 _ _ _ _ h1]
          exact ih1 _ _ _ _ h
        · rename_i hne
          rw [ih1 _ _ _ _ h]
          split
          · rename_i h1
            simp only [Option.some.injEq] at h1
            subst h1
            exact absurd h (hne _ _)
          · rfl
      | cond c t e =>
        simp only [cm] at h
        rw [cm]
        split at h
        · exact ih1 _ _ _ _ h
        · simp at h
      | block id b =>
        simp only [cm] at h
        rw [cm]
        split at h
        · rename_i h1
          rw [ih1 _ _ _ _ h1]
          exact h
        · rename_i hne
          rw [ih1 _ _ _ _ h]
          split
          · rename_i h1
            simp only [Option.some.injEq] at h1
            subst h1
            exact absurd h (hne _ _ _)
          · rfl
      | loop b =>
        simp only [cm] at h
        rw [cm]
        split at h
        · rename_i h1
          rw [ih1 _ _ _ _ h1]
          exact ih1 _ _ _ _ h
        · rename_i hne
          rw [ih1 _ _ _ _ h]
          split
          · rename_i h1
            simp only [Option.some.injEq] at h1
            subst h1
            exact absurd h (hne _ _)
          · rfl
      | scope b => simp only [cm] at h; rw [cm]; exact ih1 _ _ _ _ h
      | skip => exact h
      | label l => exact h
      | exit id => exact h
      | ret => exact h
      | rangeFunc f ps a b => simp [cm] at h
      | goto l => simp [cm] at h
      | refuse w => simp [cm] at h
    refine ⟨hcode, ?_⟩
    intro f args s r h
    unfold callC at h ⊢
    split at h
    · exact h
    split at h
    · split at h
      · rename_i fn hfn _ body hb
        cases hle : Nat.ble args.length fn.ntmps with
        | false => rw [hle] at h; simp [sel] at h
        | true =>
          rw [hle, sel_true] at h
          rw [sel_true]
          split at h
          · rename_i h1; rw [hcode _ _ _ _ h1]; exact h
          · rename_i h1; rw [hcode _ _ _ _ h1]; exact h
          · simp at h
      · simp at h
    · simp at h
theorem cm_mono {n m : Nat} (h : n ≤ m) {c : Code} {fr : Fr} {s : CS} {r : Exit × Fr × CS} (hc : cm P Γ n c fr s = some r) : cm P Γ m c fr s = some r := by
  induction m with
  | zero => have : n = 0 := by omega
            subst this; exact hc
  | succ m ih =>
    by_cases hm : n = m + 1
    · subst hm; exact hc
    · exact (mono_step m).1 _ _ _ _ (ih (by omega))
theorem callC_mono {n m : Nat} (h : n ≤ m) : CallLe (callC P Γ n) (callC P Γ m) := by
  induction m with
  | zero => have : n = 0 := by omega
            subst this; exact fun _ _ _ _ k => k
  | succ m ih =>
    by_cases hm : n = m + 1
    · subst hm; exact fun _ _ _ _ k => k
    · exact fun f args s r k => (mono_step m).2 _ _ _ _ (ih (by omega) f args s r k)
/-- a piece of code runs so, with enough fuel -/
def Ev (P : Program) (Γ : Env) (c : Code) (fr : Fr) (s : CS) (e : Exit) (fr' : Fr) (s' : CS) : Prop := ∃ n, cm P Γ n c fr s = some (e, fr', s')
/-- a function gives v -/
def Runs (P : Program) (Γ : Env) (f : FuncId) (args : List Value) (s : CS) (v : Value) (s' : CS) : Prop := ∃ n, callC P Γ n f args s = some (v, s')
/-- the operations of a region run so -/
def Ops (P : Program) (Γ : Env) (ops l : List Oper) (fr : Fr) (s : CS) (fr' : Fr) (s' : CS) : Prop := ∃ n, runC P Γ (callC P Γ n) ops l fr s = some (fr', s')
theorem Ev.skip (fr : Fr) (s : CS) : Ev P Γ .skip fr s .normal fr s := ⟨1, rfl⟩
theorem Ev.ret (fr : Fr) (s : CS) : Ev P Γ .ret fr s .ret fr s := ⟨1, rfl⟩
theorem Ev.exit (id : Nat) (fr : Fr) (s : CS) : Ev P Γ (.exit id) fr s (.exit id) fr s := ⟨1, rfl⟩
theorem Ev.seq {a b : Code} {fr fr1 fr2 : Fr} {s s1 s2 : CS} {e : Exit} (h1 : Ev P Γ a fr s .normal fr1 s1) (h2 : Ev P Γ b fr1 s1 e fr2 s2) : Ev P Γ (.seq a b) fr s e fr2 s2 := by
  obtain ⟨n, h1⟩ := h1
  obtain ⟨m, h2⟩ := h2
  refine ⟨max n m + 1, ?_⟩
  rw [cm, cm_mono (Nat.le_max_left n m) h1]
  exact cm_mono (Nat.le_max_right n m) h2
theorem Ev.seqOut {a b : Code} {fr fr1 : Fr} {s s1 : CS} {e : Exit} (h1 : Ev P Γ a fr s e fr1 s1) (he : e ≠ .normal) : Ev P Γ (.seq a b) fr s e fr1 s1 := by
  obtain ⟨n, h1⟩ := h1
  refine ⟨n + 1, ?_⟩
  rw [cm, h1]
  cases e <;> first | exact absurd rfl he | rfl
theorem Ev.cond {c : Operand} {t f : Code} {fr fr' : Fr} {s s' : CS} {e : Exit} {b : Bool} (hb : evalC fr c = .bool b) (h : Ev P Γ (bif b then t else f) fr s e fr' s') : Ev P Γ (.cond c t f) fr s e fr' s' := by
  obtain ⟨n, h⟩ := h
  refine ⟨n + 1, ?_⟩
  rw [cm, hb]
  exact h
theorem Ev.block {id : Nat} {b : Code} {fr fr' : Fr} {s s' : CS} {e : Exit} (h : Ev P Γ b fr s e fr' s') : Ev P Γ (.block id b) fr s (match e with | .exit i => (bif Nat.beq i id then .normal else .exit i) | e => e) fr' s' := by
  obtain ⟨n, h⟩ := h
  refine ⟨n + 1, ?_⟩
  rw [cm, h]
  cases e <;> rfl
theorem Ev.scope {b : Code} {fr fr' : Fr} {s s' : CS} {e : Exit} (h : Ev P Γ b fr s e fr' s') : Ev P Γ (.scope b) fr s e fr' s' := by
  obtain ⟨n, h⟩ := h
  exact ⟨n + 1, h⟩
theorem Ev.again {b : Code} {fr fr1 fr2 : Fr} {s s1 s2 : CS} {e : Exit} (h1 : Ev P Γ b fr s .normal fr1 s1) (h2 : Ev P Γ (.loop b) fr1 s1 e fr2 s2) : Ev P Γ (.loop b) fr s e fr2 s2 := by
  obtain ⟨n, h1⟩ := h1
  obtain ⟨m, h2⟩ := h2
  refine ⟨max n m + 1, ?_⟩
  rw [cm, cm_mono (Nat.le_max_left n m) h1]
  exact cm_mono (Nat.le_max_right n m) h2
theorem Ev.last {b : Code} {fr fr1 : Fr} {s s1 : CS} {e : Exit} (h1 : Ev P Γ b fr s e fr1 s1) (he : e ≠ .normal) : Ev P Γ (.loop b) fr s e fr1 s1 := by
  obtain ⟨n, h1⟩ := h1
  refine ⟨n + 1, ?_⟩
  rw [cm, h1]
  cases e <;> first | exact absurd rfl he | rfl
theorem Ev.region {id : Nat} {ops : List Oper} {fr fr' : Fr} {s s' : CS} (h : Ops P Γ ops ops fr s fr' s') : Ev P Γ (.region id ops.toArray false) fr s .normal fr' s' := by
  obtain ⟨n, h⟩ := h
  refine ⟨n + 1, ?_⟩
  show (match runC P Γ (callC P Γ n) ops.toArray.toList ops.toArray.toList fr s with
            | some (fr, s) => some (Exit.normal, fr, s)
            | none => none) = _
  simp only [List.toList_toArray, h]
theorem Ops.nil {ops : List Oper} (fr : Fr) (s : CS) : Ops P Γ ops [] fr s fr s := ⟨0, rfl⟩
theorem Ops.cons {ops : List Oper} {o : Oper} {l : List Oper} {fr fr2 : Fr} {s s1 s2 : CS} {v : Value} (hw : wantedC ops fr o = true) (h1 : ∃ n, cop P Γ (callC P Γ n) (evalC fr) o s = some (v, s1)) (h2 : Ops P Γ ops l (putC fr o.dst v) s1 fr2 s2) : Ops P Γ ops (o :: l) fr s fr2 s2 := by
  obtain ⟨n, h1⟩ := h1
  obtain ⟨m, h2⟩ := h2
  refine ⟨max n m, ?_⟩
  rw [runC, stepC, hw, cond_true, cop_le (callC_mono (Nat.le_max_left n m)) h1]
  exact runC_le (callC_mono (Nat.le_max_right n m)) h2
theorem Ops.skip {ops : List Oper} {o : Oper} {l : List Oper} {fr fr2 : Fr} {s s2 : CS} (hw : wantedC ops fr o = false) (h2 : Ops P Γ ops l (putC fr o.dst undef) s fr2 s2) : Ops P Γ ops (o :: l) fr s fr2 s2 := by
  obtain ⟨m, h2⟩ := h2
  refine ⟨m, ?_⟩
  rw [runC, stepC, hw, cond_false]
  exact h2
theorem Runs.of {f : FuncId} {fn : Func} {body : Code} {args vs : List Value} {s s1 s2 : CS} {fr' : Fr} (hax : Γ.ax f = none) (hf : Γ.fn.at f = some fn) (hb : fn.body = some body) (hl : args.length ≤ fn.ntmps) {e : Exit} (he : e = .normal ∨ e = .ret)
    (h : Ev P Γ body (Fr.ofArgs args 0 ⟨fn.ntmps, Tr.all undef 9⟩) s e fr' s1) (hr : resC Γ fr' s1 fn.results.toList = some (vs, s2)) : Runs P Γ f args s (tupC vs) s2 := by
  obtain ⟨n, h⟩ := h
  refine ⟨n, ?_⟩
  unfold callC
  rw [hax, hf]
  simp only [hb]
  rw [ble_iff.2 hl, sel_true, h]
  rcases he with rfl | rfl <;> simp only [hr]
end
end Go.Proofs.Ytfalnphlgfoflaa
namespace Go.Proofs.Ytfalnphlgfoflaa
open Go Go.RowKit
section
variable {P : Program} {Γ : Env}
open Classical in
/-- a call, with as much fuel as it takes -/
noncomputable def callR (P : Program) (Γ : Env) : CallC := fun f args s => if h : ∃ r : Value × CS, ∃ n, callC P Γ n f args s = some r then some h.choose else none
theorem callR_some {f : FuncId} {args : List Value} {s : CS} {r : Value × CS} (h : callR P Γ f args s = some r) : ∃ n, callC P Γ n f args s = some r := by
  unfold callR at h
  split at h
  · rename_i hx
    obtain ⟨n, hn⟩ := hx.choose_spec
    simp only [Option.some.injEq] at h
    exact ⟨n, by rw [← h]; exact hn⟩
  · simp at h
theorem callR_of {f : FuncId} {args : List Value} {s : CS} {r : Value × CS} {n : Nat} (h : callC P Γ n f args s = some r) : callR P Γ f args s = some r := by
  unfold callR
  have hx : ∃ r : Value × CS, ∃ n, callC P Γ n f args s = some r := ⟨r, n, h⟩
  rw [dif_pos hx]
  obtain ⟨m, hm⟩ := hx.choose_spec
  have h1 := callC_mono (P := P) (Γ := Γ) (Nat.le_max_left n m) f args s _ h
  have h2 := callC_mono (P := P) (Γ := Γ) (Nat.le_max_right n m) f args s _ hm
  rw [h1] at h2
  exact h2.symm
theorem cop_R {ρ : Operand → Value} {o : Oper} {s : CS} {r : Value × CS} (hc : cop P Γ (callR P Γ) ρ o s = some r) : ∃ n, cop P Γ (callC P Γ n) ρ o s = some r := by
  obtain ⟨dst, op, type, pos, after, guard⟩ := o
  unfold cop at hc ⊢
  cases op with
  | call c =>
    simp only at hc ⊢
    split at hc
    · rename_i f hf
      unfold opCall at hc ⊢
      split at hc
      · exact callR_some hc
      · simp at hc
    · exact ⟨0, hc⟩
    · simp at hc
  | makeMap t r => cases r <;> exact ⟨0, hc⟩
  | _ => exact ⟨0, hc⟩
theorem stepC_R {ops : List Oper} {o : Oper} {fr : Fr} {s : CS} {r : Fr × CS} (hc : stepC P Γ (callR P Γ) ops o fr s = some r) : ∃ n, stepC P Γ (callC P Γ n) ops o fr s = some r := by
  unfold stepC at hc ⊢
  cases hw : wantedC ops fr o with
  | false => rw [hw] at hc; exact ⟨0, hc⟩
  | true =>
    rw [hw] at hc
    simp only [cond_true] at hc ⊢
    split at hc
    · rename_i h1
      obtain ⟨n, hn⟩ := cop_R h1
      exact ⟨n, by rw [hn]; exact hc⟩
    · simp at hc
theorem runC_R {ops : List Oper} : ∀ {l : List Oper} {fr : Fr} {s : CS} {r : Fr × CS}, runC P Γ (callR P Γ) ops l fr s = some r → ∃ n, runC P Γ (callC P Γ n) ops l fr s = some r
  | [], _, _, _, hc => ⟨0, hc⟩
  | o :: l, fr, s, r, hc => by
    simp only [runC] at hc ⊢
    split at hc
    · rename_i h1
      obtain ⟨n, hn⟩ := stepC_R h1
      obtain ⟨m, hm⟩ := runC_R hc
      refine ⟨max n m, ?_⟩
      rw [stepC_le (callC_mono (Nat.le_max_left n m)) hn]
      exact runC_le (callC_mono (Nat.le_max_right n m)) hm
    · simp at hc
theorem drawC_R {ops : List Oper} : ∀ {l : List Oper} {fr : Fr} {s : CS} {r : List Lg × Fr × CS}, drawC P Γ (callR P Γ) ops l fr s = some r → ∃ n, drawC P Γ (callC P Γ n) ops l fr s = some r
  | [], _, _, _, hc => ⟨0, hc⟩
  | o :: l, fr, s, r, hc => by
    simp only [drawC] at hc ⊢
    split at hc
    · rename_i h1
      obtain ⟨n, hn⟩ := stepC_R h1
      split at hc
      · rename_i h2
        obtain ⟨m, hm⟩ := drawC_R h2
        refine ⟨max n m, ?_⟩
        rw [stepC_le (callC_mono (Nat.le_max_left n m)) hn]
        simp only
        rw [drawC_le (callC_mono (Nat.le_max_right n m)) hm]
        exact hc
      · simp at hc
    · simp at hc
/-- a piece of code runs to its end, and then Q -/
def W (P : Program) (Γ : Env) (c : Code) (fr : Fr) (s : CS) (Q : Exit → Fr → CS → Prop) : Prop := ∃ e fr' s', Ev P Γ c fr s e fr' s' ∧ Q e fr' s'
/-- behind a piece that ends as it should, k; else what was asked -/
def onN (k : Fr → CS → Prop) (Q : Exit → Fr → CS → Prop) (e : Exit) (fr : Fr) (s : CS) : Prop := match e with
  | .normal => k fr s
  | e => Q e fr s
/-- a block that bears a number -/
def onB (id : Nat) (Q : Exit → Fr → CS → Prop) (e : Exit) (fr : Fr) (s : CS) : Prop := match e with
  | .exit i => bif Nat.beq i id then Q .normal fr s else Q (.exit i) fr s
  | e => Q e fr s
theorem W.mono {c : Code} {fr : Fr} {s : CS} {Q R : Exit → Fr → CS → Prop} (h : W P Γ c fr s Q) (k : ∀ e fr s, Q e fr s → R e fr s) : W P Γ c fr s R := by
  obtain ⟨e, fr', s', h1, h2⟩ := h
  exact ⟨e, fr', s', h1, k _ _ _ h2⟩
theorem W.skip {fr : Fr} {s : CS} {Q : Exit → Fr → CS → Prop} (h : Q .normal fr s) : W P Γ .skip fr s Q := ⟨_, _, _, Ev.skip fr s, h⟩
theorem W.ret {fr : Fr} {s : CS} {Q : Exit → Fr → CS → Prop} (h : Q .ret fr s) : W P Γ .ret fr s Q := ⟨_, _, _, Ev.ret fr s, h⟩
theorem W.exit {id : Nat} {fr : Fr} {s : CS} {Q : Exit → Fr → CS → Prop} (h : Q (.exit id) fr s) : W P Γ (.exit id) fr s Q := ⟨_, _, _, Ev.exit id fr s, h⟩
theorem W.label {l : Nat} {fr : Fr} {s : CS} {Q : Exit → Fr → CS → Prop} (h : Q .normal fr s) : W P Γ (.label l) fr s Q := ⟨_, _, _, ⟨1, rfl⟩, h⟩
theorem W.seq {a b : Code} {fr : Fr} {s : CS} {Q : Exit → Fr → CS → Prop} (h : W P Γ a fr s (onN (fun fr s => W P Γ b fr s Q) Q)) : W P Γ (.seq a b) fr s Q := by
  obtain ⟨e, fr1, s1, h1, h2⟩ := h
  cases e with
  | normal =>
    obtain ⟨e2, fr2, s2, h3, h4⟩ := h2
    exact ⟨_, _, _, Ev.seq h1 h3, h4⟩
  | _ => exact ⟨_, _, _, Ev.seqOut h1 (by simp), h2⟩
theorem W.cond {c : Operand} {t f : Code} {fr : Fr} {s : CS} {Q : Exit → Fr → CS → Prop} {b : Bool} (hb : evalC fr c = .bool b) (h : W P Γ (bif b then t else f) fr s Q) : W P Γ (.cond c t f) fr s Q := by
  obtain ⟨e, fr1, s1, h1, h2⟩ := h
  exact ⟨_, _, _, Ev.cond hb h1, h2⟩
theorem W.block {id : Nat} {b : Code} {fr : Fr} {s : CS} {Q : Exit → Fr → CS → Prop} (h : W P Γ b fr s (onB id Q)) : W P Γ (.block id b) fr s Q := by
  obtain ⟨e, fr1, s1, h1, h2⟩ := h
  refine ⟨_, _, _, Ev.block h1, ?_⟩
  cases e with
  | exit i =>
    simp only [onB] at h2
    show Q (bif Nat.beq i id then .normal else .exit i) fr1 s1
    cases hq : Nat.beq i id with
    | true => rw [hq] at h2; exact h2
    | false => rw [hq] at h2; exact h2
  | _ => exact h2
theorem W.scope {b : Code} {fr : Fr} {s : CS} {Q : Exit → Fr → CS → Prop} (h : W P Γ b fr s Q) : W P Γ (.scope b) fr s Q := by
  obtain ⟨e, fr1, s1, h1, h2⟩ := h
  exact ⟨_, _, _, Ev.scope h1, h2⟩
theorem W.loop {b : Code} {Q : Exit → Fr → CS → Prop} (I : Nat → Fr → CS → Prop) (hb : ∀ n fr s, I n fr s → W P Γ b fr s (onN (fun fr s => ∃ m, m < n ∧ I m fr s) Q)) : ∀ n fr s, I n fr s → W P Γ (.loop b) fr s Q := by
  intro n
  induction n using Nat.strongRecOn with
  | _ n ih =>
    intro fr s hI
    obtain ⟨e, fr1, s1, h1, h2⟩ := hb n fr s hI
    cases e with
    | normal =>
      obtain ⟨m, hm, hI'⟩ := h2
      obtain ⟨e2, fr2, s2, h3, h4⟩ := ih m hm fr1 s1 hI'
      exact ⟨_, _, _, Ev.again h1 h3, h4⟩
    | _ => exact ⟨_, _, _, Ev.last h1 (by simp), h2⟩
theorem W.region {id : Nat} {ops : Array Oper} {fr fr' : Fr} {s s' : CS} {Q : Exit → Fr → CS → Prop} (h : runC P Γ (callR P Γ) ops.toList ops.toList fr s = some (fr', s')) (hq : Q .normal fr' s') : W P Γ (.region id ops false) fr s Q := by
  obtain ⟨n, hn⟩ := runC_R h
  refine ⟨_, _, _, ⟨n + 1, ?_⟩, hq⟩
  show (match runC P Γ (callC P Γ n) ops.toList ops.toList fr s with
            | some (fr, s) => some (Exit.normal, fr, s)
            | none => none) = _
  rw [hn]
theorem W.draw {id : Nat} {ops : Array Oper} {fr fr' : Fr} {s s' : CS} {logs : List Lg} {Q : Exit → Fr → CS → Prop} (h : drawC P Γ (callR P Γ) ops.toList ops.toList fr s = some (logs, fr', s')) (hc : calm s.n ops.toList logs = true) (hq : Q .normal fr' s') : W P Γ (.region id ops true) fr s Q := by
  obtain ⟨n, hn⟩ := drawC_R h
  refine ⟨_, _, _, ⟨n + 1, ?_⟩, hq⟩
  show (match drawC P Γ (callC P Γ n) ops.toList ops.toList fr s with
        | some (logs, fr, t) => bif calm s.n ops.toList logs then some (Exit.normal, fr, t) else none
        | none => none) = _
  rw [hn]
  simp only [hc, cond_true]
theorem callR_body {f : FuncId} {fn : Func} {body : Code} {args : List Value} {s s2 : CS} {v : Value} (hax : Γ.ax f = none) (hf : Γ.fn.at f = some fn) (hb : fn.body = some body) (hl : args.length ≤ fn.ntmps)
    (h : W P Γ body (Fr.ofArgs args 0 ⟨fn.ntmps, Tr.all undef 9⟩) s fun e fr' s1 => (e = .normal ∨ e = .ret) ∧ ∃ vs, resC Γ fr' s1 fn.results.toList = some (vs, s2) ∧ v = tupC vs) : callR P Γ f args s = some (v, s2) := by
  obtain ⟨e, fr1, s1, h1, he, vs, hr, rfl⟩ := h
  obtain ⟨n, hn⟩ := Runs.of hax hf hb hl he h1 hr
  exact callR_of hn
end
end Go.Proofs.Ytfalnphlgfoflaa
namespace Go.Proofs.Ytfalnphlgfoflaa
open Go Go.RowKit
section
variable {P : Program} {Γ : Env} {ρ : Operand → Value} {s : CS} {d : Option Tmp} {ty : TypeId} {pos : String} {t t2 : TypeId} {x y : Operand}
theorem nilT_int (d : TypeDesc) (k : IntKind) (n : Int) : nilT d (.int k n) = none := by cases d <;> rfl
theorem eqC_int (op : BinOp) (k : IntKind) (n : Int) (v : Value) : eqC Γ t op (.int k n) v = none := by
  unfold eqC
  cases Γ.ti.at t with
  | none => rfl
  | some i => cases op <;> first | rfl | (simp only [nilT_int]; rfl)
theorem eqGuard_nat (op : BinOp) (k k' : IntKind) (m n : Int) : eqGuard op t x y (.int k m) (.int k' n) = pure () := by
  unfold eqGuard
  cases op <;> simp
theorem opBin_pure {op : BinOp} {k k' : IntKind} {a b : Int} {r : Value} {o : Oper} (ho : o.op = .binOp op t x y t2) (hx : ρ x = .int k a) (hy : ρ y = .int k' b) (w : World)
    (hr : binOp op t (.int k a) (.int k' b) = pure r) (hp : plainV 3 r = true) : opBin P Γ ρ o s t op (.int k a) (.int k' b) = some (r, s) := by
  unfold opBin
  cases hc : binC op (.int k a) (.int k' b) with
  | some v =>
    have h1 := (binC_run (σ := fun _ _ => none) (P := P) (t := t) (x := x) (y := y) (w := w) hc (VR.ofInt _ _) (VR.ofInt _ _)).2.1
    rw [hr] at h1
    simp at h1
    simp only [h1]
  | none =>
    rw [eqC_int]
    simp only [orPure]
    unfold pureC
    have hops : (o.op.operands.toList.all fun z => plainV 3 (ρ z)) = true := by
      rw [ho]
      simp [Op.operands, hx, hy, plainV]
    rw [hops]
    have he : execOp ρ o = pure (.value r) := by
      unfold execOp
      rw [ho]
      simp only [hx, hy, eqGuard_nat, hr]
      simp
    rw [he]
    simp only [cond_true]
    show retC s (bif plainV 3 r then some r else none) = some (r, s)
    rw [hp]
    rfl
variable {e : Array Edge} {g : Option (Nat × Bool)} {k k' : IntKind} {a b : Int}
/-- n is a number of the kind -/
def inK (k : IntKind) (n : Int) : Prop := k.wrap n = n
theorem inK_i64 {n : Int} (h : -9223372036854775808 ≤ n ∧ n ≤ 9223372036854775807) : inK .i64 n := by unfold inK; simp [IntKind.wrap, IntKind.bits, IntKind.signed]; omega
theorem inK_u64 {n : Int} (h : 0 ≤ n ∧ n ≤ 18446744073709551615) : inK .u64 n := by unfold inK; simp [IntKind.wrap, IntKind.bits, IntKind.signed]; omega
theorem inK_u32 {n : Int} (h : 0 ≤ n ∧ n ≤ 4294967295) : inK .u32 n := by unfold inK; simp [IntKind.wrap, IntKind.bits, IntKind.signed]; omega
theorem inK_u8 {n : Int} (h : 0 ≤ n ∧ n ≤ 255) : inK .u8 n := by unfold inK; simp [IntKind.wrap, IntKind.bits, IntKind.signed]; omega
theorem oi_add (hx : ρ x = .int k a) (hy : ρ y = .int k b) (h : inK k (a + b)) : opBin P Γ ρ ⟨d, .binOp .add t x y t2, ty, pos, e, g⟩ s t .add (.int k a) (.int k b) = some (.int k (a + b), s) :=
  opBin_pure rfl hx hy default (by simp only [binOp, Op.intArith, ne_eq, not_true, if_false]; rw [h]) rfl
theorem ow_add (hx : ρ x = .int k a) (hy : ρ y = .int k b) : opBin P Γ ρ ⟨d, .binOp .add t x y t2, ty, pos, e, g⟩ s t .add (.int k a) (.int k b) = some (.int k (k.wrap (a + b)), s) :=
  opBin_pure rfl hx hy default (by simp only [binOp, Op.intArith, ne_eq, not_true, if_false]) rfl
theorem oi_sub (hx : ρ x = .int k a) (hy : ρ y = .int k b) (h : inK k (a - b)) : opBin P Γ ρ ⟨d, .binOp .sub t x y t2, ty, pos, e, g⟩ s t .sub (.int k a) (.int k b) = some (.int k (a - b), s) :=
  opBin_pure rfl hx hy default (by simp only [binOp, Op.intArith, ne_eq, not_true, if_false]; rw [h]) rfl
theorem ow_sub (hx : ρ x = .int k a) (hy : ρ y = .int k b) : opBin P Γ ρ ⟨d, .binOp .sub t x y t2, ty, pos, e, g⟩ s t .sub (.int k a) (.int k b) = some (.int k (k.wrap (a - b)), s) :=
  opBin_pure rfl hx hy default (by simp only [binOp, Op.intArith, ne_eq, not_true, if_false]) rfl
theorem oi_mul (hx : ρ x = .int k a) (hy : ρ y = .int k b) (h : inK k (a * b)) : opBin P Γ ρ ⟨d, .binOp .mul t x y t2, ty, pos, e, g⟩ s t .mul (.int k a) (.int k b) = some (.int k (a * b), s) :=
  opBin_pure rfl hx hy default (by simp only [binOp, Op.intArith, ne_eq, not_true, if_false]; rw [h]) rfl
theorem ow_mul (hx : ρ x = .int k a) (hy : ρ y = .int k b) : opBin P Γ ρ ⟨d, .binOp .mul t x y t2, ty, pos, e, g⟩ s t .mul (.int k a) (.int k b) = some (.int k (k.wrap (a * b)), s) :=
  opBin_pure rfl hx hy default (by simp only [binOp, Op.intArith, ne_eq, not_true, if_false]) rfl
theorem oi_eql (hx : ρ x = .int k a) (hy : ρ y = .int k b) : opBin P Γ ρ ⟨d, .binOp .eql t x y t2, ty, pos, e, g⟩ s t .eql (.int k a) (.int k b) = some (.bool (decide (a = b)), s) :=
  opBin_pure rfl hx hy default (by simp [binOp, Op.intCmp]; rfl) rfl
theorem oi_neq (hx : ρ x = .int k a) (hy : ρ y = .int k b) : opBin P Γ ρ ⟨d, .binOp .neq t x y t2, ty, pos, e, g⟩ s t .neq (.int k a) (.int k b) = some (.bool (decide (a ≠ b)), s) :=
  opBin_pure rfl hx hy default (by simp [binOp, Op.intCmp] <;> rfl) rfl
theorem oi_lss (hx : ρ x = .int k a) (hy : ρ y = .int k b) : opBin P Γ ρ ⟨d, .binOp .lss t x y t2, ty, pos, e, g⟩ s t .lss (.int k a) (.int k b) = some (.bool (decide (a < b)), s) :=
  opBin_pure rfl hx hy default (by simp [binOp, Op.intCmp]) rfl
theorem oi_leq (hx : ρ x = .int k a) (hy : ρ y = .int k b) : opBin P Γ ρ ⟨d, .binOp .leq t x y t2, ty, pos, e, g⟩ s t .leq (.int k a) (.int k b) = some (.bool (decide (a ≤ b)), s) :=
  opBin_pure rfl hx hy default (by simp [binOp, Op.intCmp]) rfl
theorem oi_gtr (hx : ρ x = .int k a) (hy : ρ y = .int k b) : opBin P Γ ρ ⟨d, .binOp .gtr t x y t2, ty, pos, e, g⟩ s t .gtr (.int k a) (.int k b) = some (.bool (decide (b < a)), s) :=
  opBin_pure rfl hx hy default (by simp [binOp, Op.intCmp]) rfl
theorem oi_geq (hx : ρ x = .int k a) (hy : ρ y = .int k b) : opBin P Γ ρ ⟨d, .binOp .geq t x y t2, ty, pos, e, g⟩ s t .geq (.int k a) (.int k b) = some (.bool (decide (b ≤ a)), s) :=
  opBin_pure rfl hx hy default (by simp [binOp, Op.intCmp]) rfl
theorem oi_quo (hx : ρ x = .int k a) (hy : ρ y = .int k b) (h0 : 0 ≤ a) (h1 : 0 < b) (h : inK k (a / b)) : opBin P Γ ρ ⟨d, .binOp .quo t x y t2, ty, pos, e, g⟩ s t .quo (.int k a) (.int k b) = some (.int k (a / b), s) :=
  opBin_pure rfl hx hy default (by simp only [binOp, Op.intDiv, ne_eq, not_true, if_false]; rw [if_neg (by omega)]; rw [Int.tdiv_eq_ediv_of_nonneg h0, h]) rfl
theorem oi_rem (hx : ρ x = .int k a) (hy : ρ y = .int k b) (h0 : 0 ≤ a) (h1 : 0 < b) : opBin P Γ ρ ⟨d, .binOp .rem t x y t2, ty, pos, e, g⟩ s t .rem (.int k a) (.int k b) = some (.int k (a % b), s) :=
  opBin_pure rfl hx hy default (by simp only [binOp, Op.intDiv, ne_eq, not_true, if_false]; rw [if_neg (by omega)]; rw [Int.tmod_eq_emod_of_nonneg h0]) rfl
theorem ow_and (hx : ρ x = .int k a) (hy : ρ y = .int k b) : opBin P Γ ρ ⟨d, .binOp .and t x y t2, ty, pos, e, g⟩ s t .and (.int k a) (.int k b) = some (.int k (k.wrap (BitVec.ofInt k.bits a &&& BitVec.ofInt k.bits b).toNat), s) :=
  opBin_pure rfl hx hy default (by simp only [binOp, Op.intBits, ne_eq, not_true, if_false]) rfl
theorem ow_or (hx : ρ x = .int k a) (hy : ρ y = .int k b) : opBin P Γ ρ ⟨d, .binOp .or t x y t2, ty, pos, e, g⟩ s t .or (.int k a) (.int k b) = some (.int k (k.wrap (BitVec.ofInt k.bits a ||| BitVec.ofInt k.bits b).toNat), s) :=
  opBin_pure rfl hx hy default (by simp only [binOp, Op.intBits, ne_eq, not_true, if_false]) rfl
theorem ow_xor (hx : ρ x = .int k a) (hy : ρ y = .int k b) : opBin P Γ ρ ⟨d, .binOp .xor t x y t2, ty, pos, e, g⟩ s t .xor (.int k a) (.int k b) = some (.int k (k.wrap (BitVec.ofInt k.bits a ^^^ BitVec.ofInt k.bits b).toNat), s) :=
  opBin_pure rfl hx hy default (by simp only [binOp, Op.intBits, ne_eq, not_true, if_false]) rfl
theorem ow_shl (hx : ρ x = .int k a) (hy : ρ y = .int k' b) (h0 : 0 ≤ b) : opBin P Γ ρ ⟨d, .binOp .shl t x y t2, ty, pos, e, g⟩ s t .shl (.int k a) (.int k' b) = some (.int k (k.wrap (a * 2 ^ (min b.toNat k.bits))), s) :=
  opBin_pure rfl hx hy default (by simp only [binOp, Op.shift]; rw [if_neg (by omega)]) rfl
theorem ow_shr (hx : ρ x = .int k a) (hy : ρ y = .int k' b) (h0 : 0 ≤ b) : opBin P Γ ρ ⟨d, .binOp .shr t x y t2, ty, pos, e, g⟩ s t .shr (.int k a) (.int k' b) = some (.int k (a.fdiv (2 ^ (min b.toNat k.bits))), s) :=
  opBin_pure rfl hx hy default (by simp only [binOp, Op.shift]; rw [if_neg (by omega)]) rfl
/-- an operation that asks nothing of memory -/
theorem pureC_of {o : Oper} {r : Value} (hops : (o.op.operands.toList.all fun z => plainV 3 (ρ z)) = true) (he : execOp ρ o = pure (.value r)) (hp : plainV 3 r = true) : pureC P ρ o = some r := by
  unfold pureC
  rw [hops, he]
  simp only [cond_true]
  show (bif plainV 3 r then some r else none) = some r
  rw [hp]; rfl
theorem ou_neg (hx : ρ x = .int k a) : orPure P ρ ⟨d, .unOp .neg t x, ty, pos, e, g⟩ s (unC .neg (.int k a)) = some (.int k (k.wrap (0 - a)), s) := by
  show retC s (pureC P ρ _) = _
  rw [pureC_of (r := .int k (k.wrap (0 - a)))]
  · rfl
  · simp [Op.operands, hx, plainV]
  · simp [execOp, hx, Op.unary, Op.intArith]
  · rfl
theorem ou_xor (hx : ρ x = .int k a) : orPure P ρ ⟨d, .unOp .xor t x, ty, pos, e, g⟩ s (unC .xor (.int k a)) = some (.int k (k.wrap (BitVec.ofInt k.bits (if k.signed then -1 else k.max) ^^^ BitVec.ofInt k.bits a).toNat), s) := by
  show retC s (pureC P ρ _) = _
  rw [pureC_of (r := .int k (k.wrap (BitVec.ofInt k.bits (if k.signed then -1 else k.max) ^^^ BitVec.ofInt k.bits a).toNat))]
  · rfl
  · simp [Op.operands, hx, plainV]
  · simp [execOp, hx, Op.unary, Op.intBits]
  · rfl
theorem eval0_bind {α β : Type} {f : α → Sem β} : ∀ {m : Sem α} {v : α}, eval0 P m = some v → eval0 P (m >>= f) = eval0 P (f v) := by
  intro m
  induction m with
  | pure a => intro v h; simp only [eval0, Option.some.injEq] at h; subst h; rfl
  | program k ih => intro v h; exact ih P h
  | _ => intro v h; simp [eval0] at h
theorem eval0_underlying {dt : TypeDesc} (h : P.underlying t = some dt) : eval0 P (underlying t) = some dt := by
  unfold underlying
  show eval0 P ((program : Sem Program) >>= _) = _
  rw [eval0_bind (v := P) rfl]
  rw [h]
  rfl
theorem oc_int {src dst : TypeId} (hx : ∃ k, ρ x = .int k a) (hs : (P.underlying src).isSome = true) (hd : P.underlying dst = some (.int k')) : orPure P ρ ⟨d, .convert src dst x, ty, pos, e, g⟩ s (convI k' a) = some (.int k' (k'.wrap a), s) := by
  obtain ⟨k, hx⟩ := hx
  obtain ⟨sd, hs⟩ := Option.isSome_iff_exists.1 hs
  have h : eval0 P (convert src dst (.int k a)) = some (.int k' (k'.wrap a)) := by
    unfold convert
    rw [eval0_bind (eval0_underlying hs), eval0_bind (eval0_underlying hd)]
    cases sd <;> rfl
  cases hc : convI k' a with
  | some v =>
    unfold convI at hc
    split at hc
    · obtain ⟨h1, rfl⟩ := natI_some hc
      have := wrap_nat k' _ (blt_iff.1 h1)
      simp only [orPure]
      rw [← this]; rfl
    · simp at hc
  | none =>
    show retC s (pureC P ρ _) = _
    unfold pureC
    rw [show (((⟨d, .convert src dst x, ty, pos, e, g⟩ : Oper).op.operands.toList.all fun z => plainV 3 (ρ z)) = true) by simp [Op.operands, hx, plainV]]
    have he : eval0 P (execOp ρ ⟨d, .convert src dst x, ty, pos, e, g⟩) = some (.value (.int k' (k'.wrap a))) := by
      unfold execOp
      simp only [hx]
      rw [eval0_bind h]
      rfl
    rw [he]
    rfl
end
end Go.Proofs.Ytfalnphlgfoflaa
namespace Go.Proofs.Ytfalnphlgfoflaa
open Go Go.RowKit
section
variable {P : Program} {Γ : Env} {call : CallC} {ops l : List Oper} {o : Oper} {fr : Fr} {s : CS}
noncomputable def thenC {α : Type} (r : Option (Fr × CS)) (k : Fr → CS → Option α) : Option α := match r with
  | some (fr, s) => k fr s
  | none => none
noncomputable def dstC (fr : Fr) (d : Option Tmp) (r : Option (Value × CS)) : Option (Fr × CS) := match r with
  | some (v, s) => some (putC fr d v, s)
  | none => none
theorem thenC_some {α : Type} (k : Fr → CS → Option α) : thenC (some (fr, s)) k = k fr s := Eq.trans rfl rfl
theorem dstC_dst (t : Tmp) (v : Value) : dstC fr (some t) (some (v, s)) = some (fr.put t v, s) := Eq.trans rfl rfl
theorem dstC_none (v : Value) : dstC fr none (some (v, s)) = some (fr, s) := Eq.trans rfl rfl
theorem runC_nil : runC P Γ call ops [] fr s = some (fr, s) := Eq.trans rfl rfl
theorem runC_cons : runC P Γ call ops (o :: l) fr s = thenC (stepC P Γ call ops o fr s) (runC P Γ call ops l) := by
  rw [runC]
  cases stepC P Γ call ops o fr s with
  | none => rfl
  | some r => rfl
theorem stepC_free {d : Option Tmp} {op : Op} {ty : TypeId} {pos : String} {e : Array Edge} : stepC P Γ call ops ⟨d, op, ty, pos, e, none⟩ fr s = dstC fr d (cop P Γ call (evalC fr) ⟨d, op, ty, pos, e, none⟩ s) := by
  rw [stepC, wantedC, cond_true]
  cases cop P Γ call (evalC fr) ⟨d, op, ty, pos, e, none⟩ s with
  | none => rfl
  | some r => rfl
theorem stepC_on {d : Option Tmp} {op : Op} {ty : TypeId} {pos : String} {e : Array Edge} {g : Option (Nat × Bool)} (h : wantedC ops fr ⟨d, op, ty, pos, e, g⟩ = true) : stepC P Γ call ops ⟨d, op, ty, pos, e, g⟩ fr s = dstC fr d (cop P Γ call (evalC fr) ⟨d, op, ty, pos, e, g⟩ s) := by
  rw [stepC, h, cond_true]
  cases cop P Γ call (evalC fr) ⟨d, op, ty, pos, e, g⟩ s with
  | none => rfl
  | some r => rfl
theorem stepC_off {d : Option Tmp} {op : Op} {ty : TypeId} {pos : String} {e : Array Edge} {g : Option (Nat × Bool)} (h : wantedC ops fr ⟨d, op, ty, pos, e, g⟩ = false) : stepC P Γ call ops ⟨d, op, ty, pos, e, g⟩ fr s = some (putC fr d undef, s) := by
  rw [stepC, h, cond_false]
theorem wanted_eq {d : Option Tmp} {op : Op} {ty : TypeId} {pos : String} {e : Array Edge} {j : Nat} {want : Bool} {t : Tmp} {b : Bool} (hd : dstOf ops j = some t) (hb : fr.get t = .bool b) : wantedC ops fr ⟨d, op, ty, pos, e, some (j, want)⟩ = (b == want) := by
  simp only [wantedC, hd, hb]
theorem ev_const (fr : Fr) (v : Value) : evalC fr (.const v) = v := by cases v <;> rfl
theorem ev_tmp (fr : Fr) (t : Nat) : evalC fr (.tmp t) = fr.get t := by cases t <;> rfl
theorem ev_func (fr : Fr) (f : Nat) : evalC fr (.func f) = .func (.func f) #[] #[] := by cases f <;> rfl
theorem ev_global (fr : Fr) (g : Nat) : evalC fr (.global g) = .pointer (some (mkA g (g * 1024) 0)) := by cases g <;> rfl
variable {ρ : Operand → Value} {d : Option Tmp} {ty : TypeId} {pos : String} {e : Array Edge} {g : Option (Nat × Bool)}
theorem cop_move {x : Operand} : cop P Γ call ρ ⟨d, .move x, ty, pos, e, g⟩ s = some (ρ x, s) := Eq.trans rfl rfl
theorem cop_assign {x : Operand} : cop P Γ call ρ ⟨d, .assign x, ty, pos, e, g⟩ s = some (ρ x, s) := Eq.trans rfl rfl
theorem cop_bin {op : BinOp} {t t2 : TypeId} {x y : Operand} : cop P Γ call ρ ⟨d, .binOp op t x y t2, ty, pos, e, g⟩ s = opBin P Γ ρ ⟨d, .binOp op t x y t2, ty, pos, e, g⟩ s t op (ρ x) (ρ y) := Eq.trans rfl rfl
theorem cop_un {op : UnOp} {t : TypeId} {x : Operand} : cop P Γ call ρ ⟨d, .unOp op t x, ty, pos, e, g⟩ s = orPure P ρ ⟨d, .unOp op t x, ty, pos, e, g⟩ s (unC op (ρ x)) := Eq.trans rfl rfl
theorem cop_conv {a b : TypeId} {x : Operand} : cop P Γ call ρ ⟨d, .convert a b x, ty, pos, e, g⟩ s = opConvert P Γ ρ ⟨d, .convert a b x, ty, pos, e, g⟩ s a b (ρ x) := Eq.trans rfl rfl
theorem cop_call {f : FuncId} {args : Array Operand} {tys : Array TypeId} : cop P Γ call (evalC fr) ⟨d, .call ⟨.value (.func f), args, tys⟩, ty, pos, e, g⟩ s = call f (args.toList.map (evalC fr)) s := by
  show opCall call s (args.toList.map (evalC fr)) (.func (.func f) #[] #[]) = _
  simp [opCall]
theorem cop_builtin {b : Builtin} {args : Array Operand} {tys : Array TypeId} : cop P Γ call ρ ⟨d, .call ⟨.builtin b, args, tys⟩, ty, pos, e, g⟩ s = opBuiltin P Γ ρ ⟨d, .call ⟨.builtin b, args, tys⟩, ty, pos, e, g⟩ s b args.toList tys.toList := Eq.trans rfl rfl
theorem cop_pick {c a b : Operand} : cop P Γ call ρ ⟨d, .pick c a b, ty, pos, e, g⟩ s = opPick s (ρ a) (ρ b) (ρ c) := Eq.trans rfl rfl
theorem cop_index {t : TypeId} {x ix : Operand} : cop P Γ call ρ ⟨d, .index t x ix, ty, pos, e, g⟩ s = opIndex Γ s t (ρ x) (natOf (ρ ix)) := Eq.trans rfl rfl
theorem cop_indexAddr {t : TypeId} {x ix : Operand} : cop P Γ call ρ ⟨d, .indexAddr t x ix, ty, pos, e, g⟩ s = opIndexAddr Γ s t (ρ x) (natOf (ρ ix)) := Eq.trans rfl rfl
theorem cop_load {t : TypeId} {x : Operand} : cop P Γ call ρ ⟨d, .load t x, ty, pos, e, g⟩ s = opLoad Γ s t (ρ x) := Eq.trans rfl rfl
theorem cop_store {t : TypeId} {x v : Operand} : cop P Γ call ρ ⟨d, .store t x v, ty, pos, e, g⟩ s = opStore Γ s t (ρ v).cells.toList (ρ x) := Eq.trans rfl rfl
theorem cop_alloc {t : TypeId} : cop P Γ call ρ ⟨d, .alloc t, ty, pos, e, g⟩ s = opAlloc Γ s t := Eq.trans rfl rfl
theorem cop_box {t : TypeId} {x : Operand} : cop P Γ call ρ ⟨d, .box t x, ty, pos, e, g⟩ s = ptrC (s.newRow 0 (ρ x).cells.toList) := Eq.trans rfl rfl
theorem cop_build {t : TypeId} {parts : Array (Nat × Operand)} : cop P Γ call ρ ⟨d, .build t parts, ty, pos, e, g⟩ s = opBuild Γ s ρ t parts.toList := Eq.trans rfl rfl
theorem cop_slice {t : TypeId} {x : Operand} {lo hi mx : Option Operand} : cop P Γ call ρ ⟨d, .slice t x lo hi mx, ty, pos, e, g⟩ s = opSlice Γ s t (ρ x) (lo.map ρ) (hi.map ρ) (mx.map ρ) := Eq.trans rfl rfl
theorem cop_s2a {t : TypeId} {x : Operand} : cop P Γ call ρ ⟨d, .sliceToArrayPointer t x, ty, pos, e, g⟩ s = opS2A Γ s t (ρ x) := Eq.trans rfl rfl
theorem cop_field {t : TypeId} {x : Operand} {k : Nat} : cop P Γ call ρ ⟨d, .field t x k, ty, pos, e, g⟩ s = opField Γ s t k (ρ x) := Eq.trans rfl rfl
theorem cop_fieldAddr {t : TypeId} {x : Operand} {k : Nat} : cop P Γ call ρ ⟨d, .fieldAddr t x k, ty, pos, e, g⟩ s = opFieldAddr Γ s t k (ρ x) := Eq.trans rfl rfl
theorem cop_extract {x : Operand} {k : Nat} : cop P Γ call ρ ⟨d, .extract x k, ty, pos, e, g⟩ s = opExtract s k (ρ x) := Eq.trans rfl rfl
theorem cop_nilCheck {x : Operand} : cop P Γ call ρ ⟨d, .nilCheck x, ty, pos, e, g⟩ s = opNilCheck s (ρ x) := Eq.trans rfl rfl
end
/-- a frame that is given by a function -/
noncomputable def Fr.of (n : Nat) (f : Nat → Value) : Fr := ⟨n, Tr.of f 9 0 1⟩
def upd (f : Nat → Value) (t : Nat) (v : Value) : Nat → Value := fun u => if u = t then v else f u
theorem upd_same (f : Nat → Value) (t : Nat) (v : Value) : upd f t v t = v := if_pos rfl
theorem upd_ne (f : Nat → Value) (t u : Nat) (v : Value) (h : u ≠ t) : upd f t v u = f u := if_neg h
theorem Tr.of_set {α : Type} (f : Nat → α) (v : α) : ∀ (d k w t : Nat), 0 < w → t < 2 ^ d → Tr.set v d (Tr.of f d k w) t = Tr.of (fun u => if u = k + t * w then v else f u) d k w := by
  intro d
  induction d generalizing f with
  | zero =>
    intro k w t hw ht
    have : t = 0 := by simpa using ht
    subst this
    show v = if k = k + 0 * w then v else f k
    rw [if_pos (by simp)]
  | succ d ih =>
    intro k w t hw ht
    have ext : ∀ (d k w : Nat) (f g : Nat → α), (∀ i, i < 2 ^ d → f (k + i * w) = g (k + i * w)) → Tr.of f d k w = Tr.of g d k w := by
      intro d
      induction d with
      | zero => intro k w f g h; show f k = g k; simpa using h 0 (by simp)
      | succ d ih =>
        intro k w f g h
        show Prod.mk _ _ = Prod.mk _ _
        congr 1
        · refine ih k (2 * w) f g fun i hi => ?_
          have := h (2 * i) (by rw [Nat.pow_succ]; omega)
          rw [show k + i * (2 * w) = k + 2 * i * w by rw [Nat.mul_comm 2 i, Nat.mul_assoc]]
          exact this
        · refine ih (k + w) (2 * w) f g fun i hi => ?_
          have := h (2 * i + 1) (by rw [Nat.pow_succ]; omega)
          rw [show k + w + i * (2 * w) = k + (2 * i + 1) * w by rw [Nat.add_mul, Nat.mul_comm 2 i, Nat.mul_assoc]; omega]
          exact this
    have hd : t / 2 < 2 ^ d := by rw [Nat.pow_succ] at ht; omega
    show Bool.rec (Prod.mk (Tr.of f d k (2 * w)) (Tr.set v d (Tr.of f d (k + w) (2 * w)) (t / 2))) (Prod.mk (Tr.set v d (Tr.of f d k (2 * w)) (t / 2)) (Tr.of f d (k + w) (2 * w))) (Nat.beq (t % 2) 0) = Prod.mk _ _
    have hm : t = 2 * (t / 2) + t % 2 := by omega
    cases hb : Nat.beq (t % 2) 0 with
    | true =>
      have h0 : t % 2 = 0 := Nat.eq_of_beq_eq_true hb
      show Prod.mk _ _ = Prod.mk _ _
      rw [ih f k (2 * w) (t / 2) (by omega) hd]
      congr 1
      · refine ext _ _ _ _ _ fun i hi => ?_
        have : k + t / 2 * (2 * w) = k + t * w := by
          have : t / 2 * (2 * w) = t * w := by rw [← Nat.mul_assoc]; congr 1; omega
          omega
        rw [this]
      · refine ext _ _ _ _ _ fun i hi => ?_
        rw [if_neg]
        intro hq
        have : w + i * (2 * w) = t * w := by omega
        have h2 : (2 * i + 1) * w = t * w := by rw [Nat.add_mul, Nat.mul_comm 2 i, Nat.mul_assoc]; omega
        have := Nat.eq_of_mul_eq_mul_right hw h2
        omega
    | false =>
      have h1 : t % 2 = 1 := by
        have : t % 2 ≠ 0 := fun h => by rw [h] at hb; simp at hb
        omega
      show Prod.mk _ _ = Prod.mk _ _
      rw [ih f (k + w) (2 * w) (t / 2) (by omega) hd]
      congr 1
      · refine ext _ _ _ _ _ fun i hi => ?_
        rw [if_neg]
        intro hq
        have h2 : (2 * i) * w = t * w := by rw [Nat.mul_comm 2 i, Nat.mul_assoc]; omega
        have := Nat.eq_of_mul_eq_mul_right hw h2
        omega
      · refine ext _ _ _ _ _ fun i hi => ?_
        have : k + w + t / 2 * (2 * w) = k + t * w := by
          have : w + t / 2 * (2 * w) = (2 * (t / 2) + 1) * w := by rw [Nat.add_mul, Nat.mul_comm 2 (t / 2), Nat.mul_assoc]; omega
          have h3 : 2 * (t / 2) + 1 = t := by omega
          rw [h3] at this
          omega
        rw [this]
theorem get_of (n : Nat) (f : Nat → Value) (t : Nat) (h : t < 512) : (Fr.of n f).get t = f t := by
  unfold Fr.get Fr.of
  rw [blt_iff.2 h, sel_true, Tr.get_of f 9 0 1 t (by simpa using h)]
  simp
theorem put_of (n : Nat) (f : Nat → Value) (t : Nat) (v : Value) (h : t < n) (h5 : n ≤ 512) : (Fr.of n f).put t v = Fr.of n (upd f t v) := by
  unfold Fr.put
  rw [show (Fr.of n f).nt = n from rfl, blt_iff.2 h, sel_true]
  unfold Fr.of
  refine congrArg (Fr.mk n) ?_
  rw [Tr.of_set f v 9 0 1 t (by omega) (by show t < 512; omega)]
  have : (fun u => if u = 0 + t * 1 then v else f u) = upd f t v := by
    funext u
    unfold upd
    rw [show 0 + t * 1 = t by omega]
  rw [this]
noncomputable def argF (l : List Value) (t : Nat) : Value := l.getD t undef
theorem all_of (n : Nat) : (⟨n, Tr.all undef 9⟩ : Fr) = Fr.of n fun _ => undef := by
  unfold Fr.of
  refine congrArg (Fr.mk n) ?_
  have : ∀ d k w, Tr.all undef d = Tr.of (fun _ => undef) d k w := by
    intro d
    induction d with
    | zero => intro k w; rfl
    | succ d ih =>
      intro k w
      exact congr (congrArg Prod.mk (ih k (2 * w))) (ih (k + w) (2 * w))
  exact this 9 0 1
section
variable {P : Program} {Γ : Env}
/-- a call, by the rules -/
theorem callR_go {f : FuncId} {fn : Func} {body : Code} {args : List Value} {s : CS} {r : Value × CS} (n : Nat) (hax : Γ.ax f = none) (hf : Γ.fn.at f = some fn) (hb : fn.body = some body) (hn : fn.ntmps = n) (hl : args.length ≤ n)
    (h : W P Γ body (Fr.ofArgs args 0 (Fr.of n fun _ => undef)) s fun e fr' s1 => (e = .normal ∨ e = .ret) ∧ ∃ vs, resC Γ fr' s1 fn.results.toList = some (vs, r.2) ∧ r.1 = tupC vs) : callR P Γ f args s = some r := by
  subst hn
  refine callR_body (v := r.1) (s2 := r.2) hax hf hb hl ?_
  rw [all_of]
  exact h
theorem ofArgs_cons (v : Value) (l : List Value) (i n : Nat) (f : Nat → Value) (h : i < n) (h5 : n ≤ 512) : Fr.ofArgs (v :: l) i (Fr.of n f) = Fr.ofArgs l (i + 1) (Fr.of n (upd f i v)) := by
  simp only [Fr.ofArgs, put_of n f i v h h5]
theorem ofArgs_nil (i : Nat) (fr : Fr) : Fr.ofArgs [] i fr = fr := Eq.trans rfl rfl
end
end Go.Proofs.Ytfalnphlgfoflaa
namespace Go.Proofs.Ytfalnphlgfoflaa
open Go Go.RowKit
/-- a word, a byte, a long word -/
def vw (x : UInt32) : Value := .int .u32 (x.toNat : Int)
def vb (x : UInt8) : Value := .int .u8 (x.toNat : Int)
def vq (x : UInt64) : Value := .int .u64 (x.toNat : Int)
def shl32 (x : UInt32) (n : Nat) : UInt32 := UInt32.ofBitVec (x.toBitVec <<< n)
def shr32 (x : UInt32) (n : Nat) : UInt32 := UInt32.ofBitVec (x.toBitVec >>> n)
def shl64 (x : UInt64) (n : Nat) : UInt64 := UInt64.ofBitVec (x.toBitVec <<< n)
def shr64 (x : UInt64) (n : Nat) : UInt64 := UInt64.ofBitVec (x.toBitVec >>> n)
theorem wrap32 (n : Nat) : IntKind.u32.wrap (n : Int) = ((n % 4294967296 : Nat) : Int) := by simp [IntKind.wrap, IntKind.bits, IntKind.signed]
theorem wrap8 (n : Nat) : IntKind.u8.wrap (n : Int) = ((n % 256 : Nat) : Int) := by simp [IntKind.wrap, IntKind.bits, IntKind.signed]
theorem wrap64 (n : Nat) : IntKind.u64.wrap (n : Int) = ((n % 18446744073709551616 : Nat) : Int) := by simp [IntKind.wrap, IntKind.bits, IntKind.signed]
theorem bv32 (x : UInt32) : BitVec.ofInt IntKind.u32.bits (x.toNat : Int) = x.toBitVec := by
  show BitVec.ofInt 32 _ = _
  rw [BitVec.ofInt_natCast]; exact BitVec.ofNat_toNat _ _ ▸ by simp [← UInt32.toNat_toBitVec]
theorem bv8 (x : UInt8) : BitVec.ofInt IntKind.u8.bits (x.toNat : Int) = x.toBitVec := by
  show BitVec.ofInt 8 _ = _
  rw [BitVec.ofInt_natCast]; simp [← UInt8.toNat_toBitVec]
theorem bv64 (x : UInt64) : BitVec.ofInt IntKind.u64.bits (x.toNat : Int) = x.toBitVec := by
  show BitVec.ofInt 64 _ = _
  rw [BitVec.ofInt_natCast]; simp [← UInt64.toNat_toBitVec]
theorem wrapb32 (r : BitVec 32) : IntKind.u32.wrap (r.toNat : Int) = (r.toNat : Int) := by rw [wrap32, Nat.mod_eq_of_lt r.isLt]
theorem wrapb8 (r : BitVec 8) : IntKind.u8.wrap (r.toNat : Int) = (r.toNat : Int) := by rw [wrap8, Nat.mod_eq_of_lt r.isLt]
theorem wrapb64 (r : BitVec 64) : IntKind.u64.wrap (r.toNat : Int) = (r.toNat : Int) := by rw [wrap64, Nat.mod_eq_of_lt r.isLt]
section
variable {P : Program} {Γ : Env} {ρ : Operand → Value} {s : CS} {d : Option Tmp} {ty : TypeId} {pos : String} {t t2 : TypeId} {x y : Operand} {e : Array Edge} {g : Option (Nat × Bool)}
theorem bw_and {a b : UInt32} (hx : ρ x = vw a) (hy : ρ y = vw b) : opBin P Γ ρ ⟨d, .binOp .and t x y t2, ty, pos, e, g⟩ s t .and (vw a) (vw b) = some (vw (a &&& b), s) := by
  unfold vw at hx hy ⊢
  rw [ow_and hx hy]
  rw [bv32, bv32]; exact congrArg (fun n => some (Value.int .u32 n, s)) (wrapb32 _)
theorem bw_or {a b : UInt32} (hx : ρ x = vw a) (hy : ρ y = vw b) : opBin P Γ ρ ⟨d, .binOp .or t x y t2, ty, pos, e, g⟩ s t .or (vw a) (vw b) = some (vw (a ||| b), s) := by
  unfold vw at hx hy ⊢
  rw [ow_or hx hy]
  rw [bv32, bv32]; exact congrArg (fun n => some (Value.int .u32 n, s)) (wrapb32 _)
theorem bw_xor {a b : UInt32} (hx : ρ x = vw a) (hy : ρ y = vw b) : opBin P Γ ρ ⟨d, .binOp .xor t x y t2, ty, pos, e, g⟩ s t .xor (vw a) (vw b) = some (vw (a ^^^ b), s) := by
  unfold vw at hx hy ⊢
  rw [ow_xor hx hy]
  rw [bv32, bv32]; exact congrArg (fun n => some (Value.int .u32 n, s)) (wrapb32 _)
theorem bw_add {a b : UInt32} (hx : ρ x = vw a) (hy : ρ y = vw b) : opBin P Γ ρ ⟨d, .binOp .add t x y t2, ty, pos, e, g⟩ s t .add (vw a) (vw b) = some (vw (a + b), s) := by
  unfold vw at hx hy ⊢
  rw [ow_add hx hy]
  rw [← Int.natCast_add, wrap32, UInt32.toNat_add]
theorem bw_mul {a b : UInt32} (hx : ρ x = vw a) (hy : ρ y = vw b) : opBin P Γ ρ ⟨d, .binOp .mul t x y t2, ty, pos, e, g⟩ s t .mul (vw a) (vw b) = some (vw (a * b), s) := by
  unfold vw at hx hy ⊢
  rw [ow_mul hx hy]
  rw [← Int.natCast_mul, wrap32, UInt32.toNat_mul]
theorem bw_shl {a : UInt32} {k : IntKind} {n : Nat} (hx : ρ x = vw a) (hy : ρ y = .int k (n : Int)) : opBin P Γ ρ ⟨d, .binOp .shl t x y t2, ty, pos, e, g⟩ s t .shl (vw a) (.int k (n : Int)) = some (vw (shl32 a n), s) := by
  unfold vw at hx ⊢
  rw [ow_shl hx hy (by omega)]
  refine congrArg (fun n => some (Value.int .u32 n, s)) ?_
  show IntKind.u32.wrap ((a.toNat : Int) * 2 ^ (min n 32)) = ((a.toBitVec <<< n).toNat : Int)
  rw [show ((a.toNat : Int) * 2 ^ (min n 32)) = ((a.toNat * 2 ^ (min n 32) : Nat) : Int) by simp, wrap32, BitVec.toNat_shiftLeft, Nat.shiftLeft_eq]
  congr 1
  by_cases h : n ≤ 32
  · rw [Nat.min_eq_left h]; rfl
  · rw [Nat.min_eq_right (by omega)]
    have h1 : 2 ^ n = 2 ^ 32 * 2 ^ (n - 32) := by rw [← Nat.pow_add]; congr 1; omega
    rw [h1, ← Nat.mul_assoc, Nat.mul_right_comm]
    show a.toNat * 2 ^ 32 % 2 ^ 32 = _ * 2 ^ 32 % 2 ^ 32
    rw [Nat.mul_mod_left, Nat.mul_mod_left]
theorem bw_shr {a : UInt32} {k : IntKind} {n : Nat} (hx : ρ x = vw a) (hy : ρ y = .int k (n : Int)) : opBin P Γ ρ ⟨d, .binOp .shr t x y t2, ty, pos, e, g⟩ s t .shr (vw a) (.int k (n : Int)) = some (vw (shr32 a n), s) := by
  unfold vw at hx ⊢
  rw [ow_shr hx hy (by omega)]
  refine congrArg (fun n => some (Value.int .u32 n, s)) ?_
  show (a.toNat : Int).fdiv (2 ^ (min n 32)) = ((a.toBitVec >>> n).toNat : Int)
  rw [Int.fdiv_eq_ediv_of_nonneg _ (Int.pow_nonneg (by omega)), BitVec.toNat_ushiftRight, Nat.shiftRight_eq_div_pow]
  rw [show ((2 : Int) ^ (min n 32)) = ((2 ^ (min n 32) : Nat) : Int) by simp, ← Int.natCast_ediv]
  congr 1
  by_cases h : n ≤ 32
  · rw [Nat.min_eq_left h]; rfl
  · rw [Nat.min_eq_right (by omega)]
    have h2 : a.toNat < 2 ^ 32 := a.toBitVec.isLt
    have h3 : 2 ^ 32 ≤ 2 ^ n := Nat.pow_le_pow_right (by omega) (by omega)
    rw [Nat.div_eq_of_lt h2]
    exact (Nat.div_eq_of_lt (Nat.lt_of_lt_of_le h2 h3)).symm
theorem bb_and {a b : UInt8} (hx : ρ x = vb a) (hy : ρ y = vb b) : opBin P Γ ρ ⟨d, .binOp .and t x y t2, ty, pos, e, g⟩ s t .and (vb a) (vb b) = some (vb (a &&& b), s) := by
  unfold vb at hx hy ⊢
  rw [ow_and hx hy]
  rw [bv8, bv8]; exact congrArg (fun n => some (Value.int .u8 n, s)) (wrapb8 _)
theorem bb_or {a b : UInt8} (hx : ρ x = vb a) (hy : ρ y = vb b) : opBin P Γ ρ ⟨d, .binOp .or t x y t2, ty, pos, e, g⟩ s t .or (vb a) (vb b) = some (vb (a ||| b), s) := by
  unfold vb at hx hy ⊢
  rw [ow_or hx hy]
  rw [bv8, bv8]; exact congrArg (fun n => some (Value.int .u8 n, s)) (wrapb8 _)
theorem bb_xor {a b : UInt8} (hx : ρ x = vb a) (hy : ρ y = vb b) : opBin P Γ ρ ⟨d, .binOp .xor t x y t2, ty, pos, e, g⟩ s t .xor (vb a) (vb b) = some (vb (a ^^^ b), s) := by
  unfold vb at hx hy ⊢
  rw [ow_xor hx hy]
  rw [bv8, bv8]; exact congrArg (fun n => some (Value.int .u8 n, s)) (wrapb8 _)
theorem bb_add {a b : UInt8} (hx : ρ x = vb a) (hy : ρ y = vb b) : opBin P Γ ρ ⟨d, .binOp .add t x y t2, ty, pos, e, g⟩ s t .add (vb a) (vb b) = some (vb (a + b), s) := by
  unfold vb at hx hy ⊢
  rw [ow_add hx hy]
  rw [← Int.natCast_add, wrap8, UInt8.toNat_add]
theorem bb_mul {a b : UInt8} (hx : ρ x = vb a) (hy : ρ y = vb b) : opBin P Γ ρ ⟨d, .binOp .mul t x y t2, ty, pos, e, g⟩ s t .mul (vb a) (vb b) = some (vb (a * b), s) := by
  unfold vb at hx hy ⊢
  rw [ow_mul hx hy]
  rw [← Int.natCast_mul, wrap8, UInt8.toNat_mul]
theorem bq_and {a b : UInt64} (hx : ρ x = vq a) (hy : ρ y = vq b) : opBin P Γ ρ ⟨d, .binOp .and t x y t2, ty, pos, e, g⟩ s t .and (vq a) (vq b) = some (vq (a &&& b), s) := by
  unfold vq at hx hy ⊢
  rw [ow_and hx hy]
  rw [bv64, bv64]; exact congrArg (fun n => some (Value.int .u64 n, s)) (wrapb64 _)
theorem bq_or {a b : UInt64} (hx : ρ x = vq a) (hy : ρ y = vq b) : opBin P Γ ρ ⟨d, .binOp .or t x y t2, ty, pos, e, g⟩ s t .or (vq a) (vq b) = some (vq (a ||| b), s) := by
  unfold vq at hx hy ⊢
  rw [ow_or hx hy]
  rw [bv64, bv64]; exact congrArg (fun n => some (Value.int .u64 n, s)) (wrapb64 _)
theorem bq_xor {a b : UInt64} (hx : ρ x = vq a) (hy : ρ y = vq b) : opBin P Γ ρ ⟨d, .binOp .xor t x y t2, ty, pos, e, g⟩ s t .xor (vq a) (vq b) = some (vq (a ^^^ b), s) := by
  unfold vq at hx hy ⊢
  rw [ow_xor hx hy]
  rw [bv64, bv64]; exact congrArg (fun n => some (Value.int .u64 n, s)) (wrapb64 _)
theorem bq_add {a b : UInt64} (hx : ρ x = vq a) (hy : ρ y = vq b) : opBin P Γ ρ ⟨d, .binOp .add t x y t2, ty, pos, e, g⟩ s t .add (vq a) (vq b) = some (vq (a + b), s) := by
  unfold vq at hx hy ⊢
  rw [ow_add hx hy]
  rw [← Int.natCast_add, wrap64, UInt64.toNat_add]
theorem bq_mul {a b : UInt64} (hx : ρ x = vq a) (hy : ρ y = vq b) : opBin P Γ ρ ⟨d, .binOp .mul t x y t2, ty, pos, e, g⟩ s t .mul (vq a) (vq b) = some (vq (a * b), s) := by
  unfold vq at hx hy ⊢
  rw [ow_mul hx hy]
  rw [← Int.natCast_mul, wrap64, UInt64.toNat_mul]
theorem bq_shl {a : UInt64} {k : IntKind} {n : Nat} (hx : ρ x = vq a) (hy : ρ y = .int k (n : Int)) : opBin P Γ ρ ⟨d, .binOp .shl t x y t2, ty, pos, e, g⟩ s t .shl (vq a) (.int k (n : Int)) = some (vq (shl64 a n), s) := by
  unfold vq at hx ⊢
  rw [ow_shl hx hy (by omega)]
  refine congrArg (fun n => some (Value.int .u64 n, s)) ?_
  show IntKind.u64.wrap ((a.toNat : Int) * 2 ^ (min n 64)) = ((a.toBitVec <<< n).toNat : Int)
  rw [show ((a.toNat : Int) * 2 ^ (min n 64)) = ((a.toNat * 2 ^ (min n 64) : Nat) : Int) by simp, wrap64, BitVec.toNat_shiftLeft, Nat.shiftLeft_eq]
  congr 1
  by_cases h : n ≤ 64
  · rw [Nat.min_eq_left h]; rfl
  · rw [Nat.min_eq_right (by omega)]
    have h1 : 2 ^ n = 2 ^ 64 * 2 ^ (n - 64) := by rw [← Nat.pow_add]; congr 1; omega
    rw [h1, ← Nat.mul_assoc, Nat.mul_right_comm]
    show a.toNat * 2 ^ 64 % 2 ^ 64 = _ * 2 ^ 64 % 2 ^ 64
    rw [Nat.mul_mod_left, Nat.mul_mod_left]
theorem bq_shr {a : UInt64} {k : IntKind} {n : Nat} (hx : ρ x = vq a) (hy : ρ y = .int k (n : Int)) : opBin P Γ ρ ⟨d, .binOp .shr t x y t2, ty, pos, e, g⟩ s t .shr (vq a) (.int k (n : Int)) = some (vq (shr64 a n), s) := by
  unfold vq at hx ⊢
  rw [ow_shr hx hy (by omega)]
  refine congrArg (fun n => some (Value.int .u64 n, s)) ?_
  show (a.toNat : Int).fdiv (2 ^ (min n 64)) = ((a.toBitVec >>> n).toNat : Int)
  rw [Int.fdiv_eq_ediv_of_nonneg _ (Int.pow_nonneg (by omega)), BitVec.toNat_ushiftRight, Nat.shiftRight_eq_div_pow]
  rw [show ((2 : Int) ^ (min n 64)) = ((2 ^ (min n 64) : Nat) : Int) by simp, ← Int.natCast_ediv]
  congr 1
  by_cases h : n ≤ 64
  · rw [Nat.min_eq_left h]; rfl
  · rw [Nat.min_eq_right (by omega)]
    have h2 : a.toNat < 2 ^ 64 := a.toBitVec.isLt
    have h3 : 2 ^ 64 ≤ 2 ^ n := Nat.pow_le_pow_right (by omega) (by omega)
    rw [Nat.div_eq_of_lt h2]
    exact (Nat.div_eq_of_lt (Nat.lt_of_lt_of_le h2 h3)).symm
theorem bw_not {a : UInt32} (hx : ρ x = vw a) : orPure P ρ ⟨d, .unOp .xor t x, ty, pos, e, g⟩ s (unC .xor (vw a)) = some (vw (~~~a), s) := by
  unfold vw at hx ⊢
  rw [ou_xor hx, bv32]
  refine congrArg (fun n => some (Value.int .u32 n, s)) ?_
  have : BitVec.ofInt 32 (if IntKind.u32.signed then -1 else IntKind.u32.max) ^^^ a.toBitVec = ~~~a.toBitVec := by
    rw [show (BitVec.ofInt 32 (if IntKind.u32.signed then -1 else IntKind.u32.max)) = BitVec.allOnes 32 by decide, BitVec.allOnes_xor]
  show IntKind.u32.wrap ((BitVec.ofInt 32 (if IntKind.u32.signed then -1 else IntKind.u32.max) ^^^ a.toBitVec).toNat : Int) = _
  rw [this]
  exact wrapb32 _
/-- conversions, by the wrap -/
theorem cw_b (x : UInt8) : Value.int .u32 (IntKind.u32.wrap (x.toNat : Int)) = vw x.toUInt32 := by
  unfold vw; rw [wrap32, UInt8.toNat_toUInt32, Nat.mod_eq_of_lt (by have := x.toNat_lt; omega)]
theorem cb_w (x : UInt32) : Value.int .u8 (IntKind.u8.wrap (x.toNat : Int)) = vb x.toUInt8 := by
  unfold vb; rw [wrap8, UInt32.toNat_toUInt8]
theorem cb_q (x : UInt64) : Value.int .u8 (IntKind.u8.wrap (x.toNat : Int)) = vb x.toUInt8 := by
  unfold vb; rw [wrap8, UInt64.toNat_toUInt8]
end
end Go.Proofs.Ytfalnphlgfoflaa
namespace Go.Proofs.Ytfalnphlgfoflaa
open Go Go.RowKit
section
variable {P : Program} {Γ : Env} {call : CallC} {ops l : List Oper} {o : Oper} {fr : Fr} {s : CS}
/-- a step of a region that draws, quiet: it writes nothing that was there, and reads only what was there when the region began -/
noncomputable def thenQ {α : Type} (n0 : Nat) (s : CS) (r : Option (Fr × CS)) (k : Fr → CS → Option α) : Option α := match r with
  | some (fr, t) => bif t.wr.isEmpty && t.rd.all fun f => Nat.blt f n0 then k fr (s.outer t) else none
  | none => none
noncomputable def quietC (P : Program) (Γ : Env) (call : CallC) (ops : List Oper) (n0 : Nat) : List Oper → Fr → CS → Option (Fr × CS)
  | [], fr, s => some (fr, s)
  | o :: l, fr, s => thenQ n0 s (stepC P Γ call ops o fr s.inner) (quietC P Γ call ops n0 l)
theorem quietC_nil {n0 : Nat} : quietC P Γ call ops n0 [] fr s = some (fr, s) := Eq.trans rfl rfl
theorem quietC_cons {n0 : Nat} : quietC P Γ call ops n0 (o :: l) fr s = thenQ n0 s (stepC P Γ call ops o fr s.inner) (quietC P Γ call ops n0 l) := Eq.trans rfl rfl
theorem draw_quiet {n0 : Nat} : ∀ {l : List Oper} {fr fr' : Fr} {s s' : CS}, quietC P Γ call ops n0 l fr s = some (fr', s') → ∃ logs, drawC P Γ call ops l fr s = some (logs, fr', s') ∧ logs.all (fun x => x.wr.isEmpty && x.rd.all fun f => Nat.blt f n0) = true
  | [], fr, fr', s, s', h => by
    simp only [quietC, Option.some.injEq, Prod.mk.injEq] at h
    obtain ⟨rfl, rfl⟩ := h
    exact ⟨[], rfl, rfl⟩
  | o :: l, fr, fr', s, s', h => by
    simp only [quietC, thenQ] at h
    split at h
    · rename_i fr1 t h1
      cases hq : t.wr.isEmpty && t.rd.all fun f => Nat.blt f n0 with
      | false => rw [hq] at h; simp at h
      | true =>
        rw [hq] at h
        simp only [cond_true] at h
        obtain ⟨logs, h2, h3⟩ := draw_quiet h
        refine ⟨⟨t.rd, t.wr, s.n, t.n⟩ :: logs, ?_, ?_⟩
        · simp only [drawC, h1, h2]
        · rw [List.all_cons, h3, Bool.and_true]
          exact hq
    · simp at h
theorem W.quiet {id : Nat} {ops : Array Oper} {fr fr' : Fr} {s s' : CS} {Q : Exit → Fr → CS → Prop} (h : quietC P Γ (callR P Γ) ops.toList s.n ops.toList fr s = some (fr', s')) (hq : Q .normal fr' s') : W P Γ (.region id ops true) fr s Q := by
  obtain ⟨logs, h1, h2⟩ := draw_quiet h
  refine W.draw h1 ?_ hq
  unfold calm
  rw [h2]
  rfl
end
/-- a store that is given by a function, with one family turned -/
def fupd (g : Nat → Fam) (i : Nat) (x : Fam) : Nat → Fam := fun j => if j = i then x else g j
theorem fupd_same (g : Nat → Fam) (i : Nat) (x : Fam) : fupd g i x i = x := if_pos rfl
theorem fupd_ne (g : Nat → Fam) (i j : Nat) (x : Fam) (h : j ≠ i) : fupd g i x j = g j := if_neg h
theorem fupd_fupd (g : Nat → Fam) (i : Nat) (x y : Fam) : fupd (fupd g i x) i y = fupd g i y := by
  funext j
  unfold fupd
  split <;> rfl
theorem fupd_comm (g : Nat → Fam) (i j : Nat) (x y : Fam) (h : i ≠ j) : fupd (fupd g i x) j y = fupd (fupd g j y) i x := by
  funext k
  unfold fupd
  by_cases h1 : k = i
  · subst h1; rw [if_neg h, if_pos rfl, if_pos rfl]
  · rw [if_neg h1, if_neg h1]
/-- the state of a proof -/
abbrev St (n : Nat) (g : Nat → Fam) (lim : Nat) (rd wr : List Nat) : CS := ⟨n, .inr g, lim, rd, wr⟩
theorem objAt_inr (g : Nat → Fam) (i : Nat) : objAt (.inr g) i = g i := Eq.trans rfl rfl
theorem objPut_inr (g : Nat → Fam) (i : Nat) (x : Fam) : objPut (.inr g) i x = .inr (fupd g i x) := by
  show Sum.inr _ = Sum.inr _
  congr 1
  funext j
  rw [sel_eq]
  unfold fupd
  by_cases h : j = i
  · rw [if_pos h, if_pos (by subst h; exact Nat.beq_refl j)]
  · rw [if_neg h, if_neg (fun k => h (Nat.eq_of_beq_eq_true k))]
section
variable {n lim n' : Nat} {g g' : Nat → Fam} {rd wr : List Nat}
theorem inner_st {ob : Sto} : CS.inner ⟨n, ob, lim, rd, wr⟩ = ⟨n, ob, n, [], []⟩ := Eq.trans rfl rfl
theorem ins_lt {m f : Nat} (h : f < m) : ins m [] f = [f] := by unfold ins; rw [blt_iff.2 h]; rfl
theorem ins_ge {m f : Nat} (l : List Nat) (h : m ≤ f) : ins m l f = l := by
  unfold ins
  cases hb : Nat.blt f m with
  | false => rfl
  | true => exact absurd (blt_iff.1 hb) (by omega)
theorem thenQ_same {α : Type} {n0 : Nat} {fr : Fr} {k : Fr → CS → Option α} {ob ob' : Sto} : thenQ n0 ⟨n, ob, lim, rd, wr⟩ (some (fr, ⟨n', ob', n, [], []⟩)) k = k fr ⟨n', ob', lim, rd, wr⟩ := Eq.trans rfl rfl
theorem thenQ_rd {α : Type} {n0 f : Nat} {fr : Fr} {k : Fr → CS → Option α} {ob ob' : Sto} (h : f < n0) : thenQ n0 ⟨n, ob, lim, rd, wr⟩ (some (fr, ⟨n', ob', n, [f], []⟩)) k = k fr ⟨n', ob', lim, ins lim rd f, wr⟩ := by
  show (bif true && ([f].all fun f => Nat.blt f n0) then _ else _) = _
  rw [List.all_cons, blt_iff.2 h]
  rfl
theorem newRow_st {tag : Nat} {cs : List Value} : CS.newRow (St n g lim rd wr) tag cs = some (mkA n (n * 1024 + tag) 0, St (n + 1) (fupd g n ⟨false, [(n * 1024 + tag, cs)], none⟩) lim rd wr) := by
  unfold CS.newRow
  show sel true _ _ = _
  rw [sel_true, objPut_inr]
theorem readRow_st {a : Addr} : CS.readRow (St n g lim rd wr) a = match rowOf (g a.block).rows (Addr.ver a) with
    | some cs => some (cs, St n g lim (ins lim rd a.block) wr)
    | none => none := rfl
theorem rowOf_one {u : Nat} {cs : List Value} : rowOf [(u, cs)] u = some cs := by
  unfold rowOf
  rw [Nat.beq_refl]; rfl
/-- a write to a row of one version -/
theorem write_st {f u off : Nat} {vs cs : List Value} {es : Option (List (Value × Value))} (hg : g f = ⟨false, [(u, cs)], es⟩) (hl : off + vs.length ≤ cs.length) (ho : vs.all oneC = true) :
    CS.write (St n g lim rd wr) (mkA f u off) vs = some (St n (fupd g f ⟨false, [(u, splice cs off vs)], none⟩) lim rd (ins lim wr f)) := by
  unfold CS.write
  show (match (g f).ro, rowOf (g f).rows u with | false, some cs => _ | _, _ => none) = _
  rw [hg]
  simp only
  rw [rowOf_one]
  simp only
  rw [ble_iff.2 (show (mkA f u off).off + vs.length ≤ cs.length from hl), ho, Bool.and_true, sel_true, objPut_inr]
  rfl
theorem block_mk {f u off : Nat} : (mkA f u off).block = f := Eq.trans rfl rfl
theorem off_mk {f u off : Nat} : (mkA f u off).off = off := Eq.trans rfl rfl
theorem ver_mk {f u off : Nat} : Addr.ver (mkA f u off) = u := Eq.trans rfl rfl
theorem plus_mk {f u off k : Nat} : Addr.plus (mkA f u off) k = mkA f u (off + k) := Eq.trans rfl rfl
theorem splice_one {cs : List Value} {off : Nat} {v : Value} (h : off < cs.length) : splice cs off [v] = cs.set off v := by
  unfold splice
  rw [List.set_eq_take_append_cons_drop, if_pos h]
  simp
theorem splice_all {cs vs : List Value} (h : vs.length = cs.length) : splice cs 0 vs = vs := by
  unfold splice
  simp [h]
end
end Go.Proofs.Ytfalnphlgfoflaa
namespace Go.Proofs.Ytfalnphlgfoflaa
open Go Go.RowKit
/-- the families of the globals: number and cells -/
noncomputable def objK : List (Nat × List Value) → Sto
  | [] => .inl (Tr.all famNone 14)
  | (g, cs) :: l => objPut (objK l) g ⟨true, [(g * 1024, cs)], none⟩
def famK : List (Nat × List Value) → Nat → Fam
  | [], _ => famNone
  | (g, cs) :: l, f => if f = g then ⟨true, [(g * 1024, cs)], none⟩ else famK l f
noncomputable def csK (N : Nat) (K : List (Nat × List Value)) : CS := ⟨N, objK K, 0, [], []⟩
/-- what a run over the globals alone gives -/
noncomputable def valK (P : Program) (Γ : Env) (f : FuncId) (fuel N : Nat) (K : List (Nat × List Value)) : Option Value :=
  match callC P Γ fuel f [] (csK N K) with
  | some (v, _) => some v
  | none => none
theorem roomK : ∀ (K : List (Nat × List Value)) (n : Nat), n < 16384 → roomIn (objK K) n = true
  | [], n, h => blt_iff.2 h
  | (g, cs) :: l, n, h => by
    have := roomK l n h
    show roomIn (objPut (objK l) g _) n = true
    cases hq : objK l with
    | inl t => exact blt_iff.2 h
    | inr t => rfl
theorem objK_at : ∀ (K : List (Nat × List Value)), (∀ p, p ∈ K → p.1 < 16384) → ∀ f, objAt (objK K) f = famK K f
  | [], _, f => by
    show sel (Nat.blt f 16384) (Tr.get 14 (Tr.all famNone 14) f) ⟨true, [], none⟩ = famNone
    rw [sel_eq]
    split
    · exact Tr.get_all _ 14 _
    · rfl
  | (g, cs) :: l, h, f => by
    have hg := roomK l g (h (g, cs) (by simp))
    show objAt (objPut (objK l) g _) f = if f = g then _ else famK l f
    split
    · rename_i h1; subst h1; exact objAt_put_same _ hg
    · rename_i h1; rw [objAt_put_other _ hg (Ne.symm h1)]; exact objK_at l (fun p hp => h p (by simp [hp])) f
/-- the globals hold these cells in a world -/
def GlobsAt (w : World) (K : List (Nat × List Value)) : Prop :=
  ∀ p, p ∈ K → p.1 < w.heap.size ∧ ∀ (j : Nat) (u : Value), p.2[j]? = some u → w.cell? ⟨p.1, j, none⟩ = some u ∧ plainV 3 u = true
open Classical in
/-- where the globals lie -/
noncomputable def sgK (G : List Nat) (K : List (Nat × List Value)) : Sg := fun f u => if has G f = true ∧ u = f * 1024 then some (f, 0, (famK K f).rows.head?.elim 0 fun p => p.2.length) else none
theorem famK_rows : ∀ {K : List (Nat × List Value)} {f : Nat} {p : Nat × List Value}, p ∈ (famK K f).rows → p.1 = f * 1024 ∧ (f, p.2) ∈ K ∧ (famK K f).rows = [p]
  | [], f, p, h => by simp [famK, famNone] at h
  | (g, cs) :: l, f, p, h => by
    simp only [famK] at h ⊢
    split at h
    · rename_i hf
      subst hf
      simp only [List.mem_singleton] at h
      subst h
      simp
    · rename_i hf
      obtain ⟨h1, h2, h3⟩ := famK_rows h
      rw [if_neg hf]
      exact ⟨h1, List.mem_cons_of_mem _ h2, h3⟩
theorem famK_es : ∀ {K : List (Nat × List Value)} {f : Nat}, (famK K f).es = none ∧ (famK K f).ro = true
  | [], f => ⟨rfl, rfl⟩
  | (g, cs) :: l, f => by
    simp only [famK]
    split
    · exact ⟨rfl, rfl⟩
    · exact famK_es
theorem famK_some : ∀ {K : List (Nat × List Value)} {f : Nat} {cs : List Value}, (f, cs) ∈ K → ∃ p, (famK K f).rows = [p] ∧ p.1 = f * 1024 ∧ (f, p.2) ∈ K
  | (g, cs') :: l, f, cs, h => by
    simp only [famK]
    split
    · rename_i hf; subst hf; exact ⟨_, rfl, rfl, by simp⟩
    · rename_i hf
      rcases List.mem_cons.1 h with h | h
      · cases h; exact absurd rfl hf
      · obtain ⟨p, h1, h2, h3⟩ := famK_some h
        exact ⟨p, h1, h2, List.mem_cons_of_mem _ h3⟩
theorem famK_other : ∀ {K : List (Nat × List Value)} {f : Nat}, (∀ cs, (f, cs) ∉ K) → famK K f = famNone
  | [], f, h => rfl
  | (g, cs) :: l, f, h => by
    simp only [famK]
    rw [if_neg (fun hf => h cs (by subst hf; simp))]
    exact famK_other fun cs' hc => h cs' (List.mem_cons_of_mem _ hc)
section
variable {P : Program}
/-- A FUNCTION WITHOUT PARAMETERS THAT GIVES v IN THE PLAIN MACHINE OVER THE GLOBALS' TABLES GIVES v IN THE MODEL, FROM WHATEVER WORLD THAT HOLDS THEM. -/
theorem calls_glob (hm : P.follows .mixedOrders = true) {L G : List Nat} {ax : Axs} (hA : CallCan (axC (envAx P L ax))) (hB : CallOk P G (axC (envAx P L ax))) {f fuel N : Nat} {K : List (Nat × List Value)} {v : Value} (hL : funcsOk P G L = true)
    (hax : ax f = none) (hG : ∀ p, p ∈ K → has G p.1 = true ∧ p.1 < 16384) (hN : ∀ g, has G g = true → g < N) (hv : plainV 3 v = true) (h : valK P (envAx P L ax) f fuel N K = some v) (w : World) (hw : GlobsAt w K) (hwG : ∀ g, has G g = true → g < w.heap.size) :
    Calls P f #[] w fun e w' => e = .returned v ∧ Below w.heap.size w w' := by
  unfold valK at h
  split at h
  · rename_i s' hq
    simp only [Option.some.injEq] at h
    subst h
    have hobj : ∀ f, objAt (csK N K).obj f = famK K f := objK_at K fun p hp => (hG p hp).2
    have hI : CInv (csK N K) := by
      refine ⟨fun f hf => ?_, fun f p hp => ?_, Nat.zero_le _⟩
      · rw [hobj]
        exact famK_other fun cs hc => by have := hN _ (hG _ hc).1; simp only [csK] at hf; omega
      · rw [hobj] at hp
        obtain ⟨h1, h2, _⟩ := famK_rows hp
        have := hN _ (hG _ h2).1
        show p.1 / 1024 < N
        rw [h1]; simp only at this; omega
    have hσ : ∀ f u b o z, sgK G K f u = some (b, o, z) → has G f = true ∧ u = f * 1024 ∧ b = f ∧ o = 0 := by
      intro f u b o z hs
      unfold sgK at hs
      split at hs
      · rename_i hc; simp only [Option.some.injEq, Prod.mk.injEq] at hs; exact ⟨hc.1, hc.2, hs.1.symm, hs.2.1.symm⟩
      · simp at hs
    have hr : Rel (sgK G K) (fun _ => True) (csK N K) w := by
      refine ⟨?_, ?_, ?_, hI.none, hI.vers⟩
      · intro f u b o z f' u' o' z' h1 h2
        have := hσ _ _ _ _ _ h1
        have := hσ _ _ _ _ _ h2
        omega
      · intro f u b o z h1
        obtain ⟨hc, _, hb, _⟩ := hσ _ _ _ _ _ h1
        rw [hb]
        exact hwG _ hc
      · intro f _
        rw [hobj]
        refine ⟨?_, ?_, ?_⟩
        · intro p hp b o z hs
          obtain ⟨h1, h2, h3⟩ := famK_rows hp
          have hz : z = p.2.length := by
            unfold sgK at hs
            split at hs
            · rw [h3] at hs; simp at hs; exact hs.2.2.symm
            · simp at hs
          obtain ⟨_, _, hb, ho⟩ := hσ _ _ _ _ _ hs
          subst hb; subst ho; subst hz
          refine ⟨by omega, fun j hj => ?_, fun hro => ?_, fun j u hu => ?_⟩
          · obtain ⟨k1, _⟩ := (hw _ h2).2 j _ (List.getElem?_eq_getElem hj)
            rw [k1]; rfl
          · rw [famK_es.2] at hro; simp at hro
          · obtain ⟨k1, k2⟩ := (hw _ h2).2 j u hu
            rw [Nat.zero_add]
            exact ⟨u, k1, plain_refl 3 k2⟩
        · intro hro; rw [famK_es.2] at hro; simp at hro
        · intro es he
          rw [famK_es.1] at he; simp at he
    have hF : Fresh (sgK G K) (csK N K).n s'.n := by
      intro f u hx
      cases hs : sgK G K f u with
      | none => rfl
      | some p =>
        obtain ⟨b, o, z⟩ := p
        obtain ⟨hc, hu, _⟩ := hσ _ _ _ _ _ hs
        have := hN _ hc
        simp only [csK] at hx this
        omega
    have hGl : GlobOk G (sgK G K) := by
      intro g hg
      exact ⟨_, if_pos ⟨hg, rfl⟩⟩
    have hcall := call_ok hA hB hL (code_ok hm hA hB hL fuel).1 f [] #[] (csK N K) _ s' w (sgK G K) (fun _ => True) hq trivial hr (fun _ _ => trivial) hF hI hGl
    obtain ⟨x, h1, h2⟩ := hcall
    have hx : x = f := by
      unfold callC at hq
      rw [show (envAx P L ax).ax f = none from hax] at hq
      simp only at hq
      cases hfn : (envAx P L ax).fn.at f with
      | none => rw [hfn] at hq; simp at hq
      | some fn =>
        obtain ⟨hok, hfun⟩ := func_ok hL hfn
        unfold funcOk at hok
        simp only [Bool.and_eq_true] at hok
        rw [hfn] at hq
        simp only at hq
        cases hb : fn.body with
        | none => rw [hb] at hq; simp at hq
        | some body =>
          have hne : ¬ fn.name = "runtime.NumGoroutine" := by simpa using hok.1.2
          have : (callFunc f #[]).run P w = .ok (.enter f #[]) w := by simp [callFunc, hfun, hne, hb]
          rw [this] at h1
          simp at h1
          exact h1.symm
    subst hx
    refine h2.mono ?_
    rintro e w' ⟨σ', v', rfl, k1, k2, k3⟩
    refine ⟨by rw [plain_eq 3 hv k1], k3.st.1, k3.st.2.1, k3.st.2.2, k3.size, fun k hk => k3.frame k hk fun f u o z hs => .inr ?_⟩
    rw [hobj]
    exact famK_es.2
  · simp at h
end
end Go.Proofs.Ytfalnphlgfoflaa
namespace Go.Proofs.Ytfalnphlgfoflaa
open Go Go.RowKit
/-- a function that is taken for known, and rightly -/
structure AxOk (P : Program) (G : List Nat) (f : Nat) (h : List Value → CS → Option (Value × CS)) : Prop where
  can : ∀ args s v s', h args s = some (v, s') → CInv s → Can s s'
  ok : ∀ (args : List Value) (args' : Array Value) s v s' w σ V, h args s = some (v, s') → RL (VR σ) args args'.toList → Rel σ V s w → Covers V s' → Fresh σ s.n s'.n → CInv s → GlobOk G σ →
    (callFunc f args').run P w = .ok (.enter f args') w ∧ Calls P f args' w fun e w' => ∃ σ' v', e = .returned v' ∧ VR σ' v v' ∧ Rel σ' V s' w' ∧ Ext σ V s w σ' s' w'
def AxsOk (P : Program) (G : List Nat) (ax : Axs) : Prop := ∀ f h, ax f = some h → AxOk P G f h
section
variable {P : Program} {G L : List Nat} {ax : Axs}
theorem AxsOk.can (h : AxsOk P G ax) : CallCan (axC (envAx P L ax)) := by
  intro f args s v s' hc hI
  unfold axC at hc
  change (match ax f with | some k => k args s | none => none) = _ at hc
  cases hq : ax f with
  | none => rw [hq] at hc; simp at hc
  | some k => rw [hq] at hc; exact (h f k hq).can args s v s' hc hI
theorem AxsOk.call (h : AxsOk P G ax) : CallOk P G (axC (envAx P L ax)) := by
  intro f args args' s v s' w σ V hc hl hr hV hF hI hG
  unfold axC at hc
  change (match ax f with | some k => k args s | none => none) = _ at hc
  cases hq : ax f with
  | none => rw [hq] at hc; simp at hc
  | some k => rw [hq] at hc; exact ⟨f, (h f k hq).ok args args' s v s' w σ V hc hl hr hV hF hI hG⟩
theorem AxsOk.none : AxsOk P G fun _ => none := fun f h hq => by simp at hq
/-- one more known function -/
def axAdd (f : Nat) (h : List Value → CS → Option (Value × CS)) (ax : Axs) : Axs := fun k => if k = f then some h else ax k
theorem axAdd_same (f : Nat) (h : List Value → CS → Option (Value × CS)) (ax : Axs) : axAdd f h ax f = some h := if_pos rfl
theorem axAdd_ne {f k : Nat} (h : List Value → CS → Option (Value × CS)) (ax : Axs) (hk : k ≠ f) : axAdd f h ax k = ax k := if_neg hk
theorem AxsOk.add {f : Nat} {h : List Value → CS → Option (Value × CS)} (h1 : AxsOk P G ax) (h2 : AxOk P G f h) : AxsOk P G (axAdd f h ax) := by
  intro k u hu
  unfold axAdd at hu
  split at hu
  · rename_i hk; subst hk; simp only [Option.some.injEq] at hu; subst hu; exact h2
  · exact h1 k u hu
theorem Rel.below {σ : Sg} {V : Nat → Prop} {s : CS} {w w' : World} (h : Rel σ V s w) (b : Below w.heap.size w w') : Rel σ V s w' :=
  ⟨h.inj, fun f u b' o z k => Nat.lt_of_lt_of_le (h.lt f u b' o z k) b.size, fun f hf => (h.fam f hf).move (fun _ _ _ k => k) (fun _ _ => rfl) fun u b' o z k => b.block b' (h.lt f u b' o z k), h.none, h.vers⟩
theorem Ext.below (σ : Sg) (V : Nat → Prop) (s : CS) {w w' : World} (b : Below w.heap.size w w') : Ext σ V s w σ s w' :=
  ⟨fun _ _ _ h => h, fun _ _ h k => absurd h k, fun _ _ _ _ _ h k => by rw [h] at k; simp at k, b.size, fun k hk _ => b.block k hk, b.os, b.tape, b.output⟩
theorem enter_ok (hL : funcsOk P G L = true) {f : Nat} {fn : Func} {body : Code} (hfn : (envAx P L ax).fn.at f = some fn) (hb : fn.body = some body) (args' : Array Value) (w : World) : (callFunc f args').run P w = .ok (.enter f args') w := by
  obtain ⟨hok, hfun⟩ := func_ok hL hfn
  unfold funcOk at hok
  simp only [Bool.and_eq_true] at hok
  have hne : ¬ fn.name = "runtime.NumGoroutine" := by simpa using hok.1.2
  simp [callFunc, hfun, hne, hb]
/-- a function without parameters whose value is known in whatever world -/
noncomputable def axVal (v : Value) : List Value → CS → Option (Value × CS) := fun args s => match args with
  | [] => some (v, s)
  | _ :: _ => none
theorem ax_val (hL : funcsOk P G L = true) {f : Nat} {fn : Func} {body : Code} (hfn : (envAx P L ax).fn.at f = some fn) (hb : fn.body = some body) {v : Value} (hv : plainV 3 v = true) (hc : ∀ w, Calls P f #[] w fun e w' => e = .returned v ∧ Below w.heap.size w w') : AxOk P G f (axVal v) := by
  refine ⟨?_, ?_⟩
  · intro args s v' s' h _
    cases args with
    | nil => simp only [axVal, Option.some.injEq, Prod.mk.injEq] at h; rw [← h.2]; exact Can.refl _
    | cons a l => simp [axVal] at h
  · intro args args' s v' s' w σ V h hl hr hV hF hI hG
    cases args with
    | cons a l => simp [axVal] at h
    | nil =>
      simp only [axVal, Option.some.injEq, Prod.mk.injEq] at h
      obtain ⟨rfl, rfl⟩ := h
      obtain ⟨args'⟩ := args'
      cases args' with
      | cons a l => exact hl.elim
      | nil =>
        refine ⟨enter_ok hL hfn hb _ _, (hc w).mono ?_⟩
        rintro e w' ⟨rfl, b⟩
        exact ⟨σ, _, rfl, plain_refl 3 hv, hr.below b, Ext.below σ V s b⟩
/-- the state with its store as a function -/
noncomputable def CS.fn (s : CS) : CS := ⟨s.n, .inr (objAt s.obj), s.lim, s.rd, s.wr⟩
theorem CS.fn_at (s : CS) (f : Nat) : objAt s.fn.obj f = objAt s.obj f := Eq.trans rfl rfl
theorem CInv.fn {s : CS} (h : CInv s) : CInv s.fn := ⟨fun f hf => h.none f hf, fun f p hp => h.vers f p hp, h.lim⟩
theorem Rel.fn {σ : Sg} {V : Nat → Prop} {s : CS} {w : World} (h : Rel σ V s w) : Rel σ V s.fn w := ⟨h.inj, h.lt, fun f hf => h.fam f hf, fun f hf => h.none f hf, fun f p hp => h.vers f p hp⟩
/-- what a run by hand must say for its function to be known: a plain value, nothing that was there turned, the numbers that it takes, the rows that it reads -/
structure Con (P : Program) (Γ : Env) (f : Nat) (args : List Value) (s : CS) (v : Value) (s' : CS) : Prop where
  plain : plainV 3 v = true
  obj : s'.obj = s.obj
  lim : s'.lim = s.lim
  wr : s'.wr = s.wr
  rd : ∀ x, x ∈ s.rd → x ∈ s'.rd
  n : s.n ≤ s'.n
  run : ∃ s1, callR P Γ f args s.fn = some (v, s1) ∧ s1.n ≤ s'.n ∧ (∀ x, x ∈ s1.rd → x ∈ s'.rd) ∧ (∀ x, x ∈ s1.wr → x ∈ s.wr) ∧ ∀ f, f < s.n → objAt s1.obj f = objAt s.obj f
theorem ax_of (hm : P.follows .mixedOrders = true) (hL : funcsOk P G L = true) (hx : AxsOk P G ax) {f : Nat} {fn : Func} {body : Code} (hax : ax f = none) (hfn : (envAx P L ax).fn.at f = some fn) (hb : fn.body = some body) {h : List Value → CS → Option (Value × CS)}
    (hc : ∀ args s v s', h args s = some (v, s') → CInv s → Con P (envAx P L ax) f args s v s') : AxOk P G f h := by
  have hA : CallCan (axC (envAx P L ax)) := hx.can
  have hB : CallOk P G (axC (envAx P L ax)) := hx.call
  refine ⟨?_, ?_⟩
  · intro args s v s' hh hI
    have c := hc args s v s' hh hI
    refine ⟨c.n, c.lim, c.rd, fun f hf => by rw [c.wr]; exact hf, fun f _ _ _ => by rw [c.obj], fun f _ => by rw [c.obj], fun hn f hf => ?_, fun hv f p hp => ?_, fun hw f hf => ?_⟩
    · rw [c.obj]; exact hn f (Nat.le_trans c.n hf)
    · rw [c.obj] at hp; exact Nat.lt_of_lt_of_le (hv f p hp) c.n
    · rw [c.wr] at hf; rw [c.lim]; exact hw f hf
  · intro args args' s v s' w σ V hh hl hr hV hF hI hG
    have c := hc args s v s' hh hI
    obtain ⟨s1, r1, r2, r3, r4, r5⟩ := c.run
    obtain ⟨n, hn⟩ := callR_some r1
    have hcan := (cm_facts (P := P) hA n).2 f args s.fn v s1 hn hI.fn
    have hV1 : Covers V s1 := by
      intro x hx
      rcases hx with hx | hx | hx
      · exact hV x (.inl (r3 x hx))
      · exact hV x (.inr (.inl (by rw [c.wr]; exact r4 x hx)))
      · exact hV x (.inr (.inr (by rw [c.lim]; rw [hcan.lim] at hx; exact hx)))
    obtain ⟨x, h1, h2⟩ := call_ok hA hB hL (code_ok hm hA hB hL n).1 f args args' s.fn v s1 w σ V hn hl hr.fn hV1 (hF.mono (Nat.le_refl _) r2) hI.fn hG
    have he := enter_ok (ax := ax) hL hfn hb args' w
    rw [he] at h1
    have hx : x = f := by simp_all
    subst hx
    refine ⟨he, h2.mono ?_⟩
    rintro e w' ⟨σ', v', rfl, k1, k2, k3⟩
    refine ⟨σ', v', rfl, k1, ⟨k2.inj, k2.lt, fun g hg => ?_, fun g hg => ?_, fun g p hp => ?_⟩, ⟨k3.le, fun g u a b => ?_, k3.old, k3.size, k3.frame, k3.st⟩⟩
    · rw [c.obj]
      by_cases hlt : g < s.n
      · rw [← r5 g hlt]; exact k2.fam g hg
      · rw [hI.none g (by omega)]; exact FamAt.ofNone
    · rw [c.obj]; exact hI.none g (Nat.le_trans c.n hg)
    · rw [c.obj] at hp; exact Nat.lt_of_lt_of_le (hI.vers g p hp) c.n
    · have q := k3.new g u a b
      exact ⟨q.1, by omega, by omega, q.2.2.2⟩
/-- FROM A RUN BY HAND TO THE MODEL. -/
theorem calls_of (hm : P.follows .mixedOrders = true) (hL : funcsOk P G L = true) (hx : AxsOk P G ax) {f : Nat} {fn : Func} {body : Code} (hfn : (envAx P L ax).fn.at f = some fn) (hb : fn.body = some body) {args : List Value} {args' : Array Value} {s s' : CS} {v : Value} {w : World} {σ : Sg}
    (h : callR P (envAx P L ax) f args s = some (v, s')) (hl : RL (VR σ) args args'.toList) (hr : Rel σ (fun _ => True) s w) (hF : ∀ f u p, σ f u = some p → f < s.n ∧ u / 1024 < s.n ∧ (objAt s.obj f).ro = true) (hI : CInv s) (hG : GlobOk G σ) :
    Calls P f args' w fun e w' => ∃ σ' v', e = .returned v' ∧ VR σ' v v' ∧ Below w.heap.size w w' := by
  have hA : CallCan (axC (envAx P L ax)) := hx.can
  have hB : CallOk P G (axC (envAx P L ax)) := hx.call
  obtain ⟨n, hn⟩ := callR_some h
  have hFr : Fresh σ s.n s'.n := by
    intro g u hgu
    cases hq : σ g u with
    | none => rfl
    | some p => have := hF g u p hq; omega
  obtain ⟨x, h1, h2⟩ := call_ok hA hB hL (code_ok hm hA hB hL n).1 f args args' s v s' w σ _ hn hl hr (fun _ _ => trivial) hFr hI hG
  have he := enter_ok (ax := ax) hL hfn hb args' w
  rw [he] at h1
  have hx : x = f := by simp_all
  subst hx
  refine h2.mono ?_
  rintro e w' ⟨σ', v', rfl, k1, k2, k3⟩
  exact ⟨σ', v', rfl, k1, k3.st.1, k3.st.2.1, k3.st.2.2, k3.size, fun k hk => k3.frame k hk fun g u o z hs => .inr (hF g u _ hs).2.2⟩
/-- with plain parameters and no globals -/
theorem calls_plain (hm : P.follows .mixedOrders = true) (hL : funcsOk P [] L = true) (hx : AxsOk P [] ax) {f : Nat} {fn : Func} {body : Code} (hfn : (envAx P L ax).fn.at f = some fn) (hb : fn.body = some body) {args : Array Value} {s' : CS} {v : Value}
    (h : callR P (envAx P L ax) f args.toList (St 0 (fun _ => famNone) 0 [] []) = some (v, s')) (hp : args.toList.all (plainV 3) = true) (hv : plainV 3 v = true) (w : World) :
    Calls P f args w fun e w' => e = .returned v ∧ Below w.heap.size w w' := by
  refine (calls_of (σ := fun _ _ => none) hm hL hx hfn hb (w := w) h (args' := args) ?_ ?_ (fun f u p hq => by simp at hq) ?_ (fun g hg => by simp [has] at hg)).mono ?_
  · exact RL.of rfl fun i x y hx hy => by
      rw [hx] at hy; cases hy
      exact plain_refl 3 (List.all_eq_true.1 hp x (List.mem_of_getElem? hx))
  · exact ⟨fun _ _ _ _ _ _ _ _ _ h => by simp at h, fun _ _ _ _ _ h => by simp at h, fun f _ => FamAt.ofNone, fun _ _ => rfl, fun f p hp => by simp [objAt, famNone] at hp⟩
  · exact ⟨fun _ _ => rfl, fun f p hp => by simp [objAt, famNone] at hp, Nat.le_refl _⟩
  · rintro e w' ⟨σ', v', rfl, k1, k2⟩
    exact ⟨by rw [plain_eq 3 hv k1], k2⟩
end
end Go.Proofs.Ytfalnphlgfoflaa
namespace Go.Proofs.Ytfalnphlgfoflaa
open Go Go.RowKit
theorem ble_ok {m n : Nat} (h : m ≤ n) : Nat.ble m n = true := ble_iff.2 h
theorem ble_no {m n : Nat} (h : n < m) : Nat.ble m n = false := by
  cases hb : Nat.ble m n with
  | false => rfl
  | true => exact absurd (ble_iff.1 hb) (by omega)
theorem blt_ok {m n : Nat} (h : m < n) : Nat.blt m n = true := blt_iff.2 h
theorem blt_no {m n : Nat} (h : n ≤ m) : Nat.blt m n = false := by
  cases hb : Nat.blt m n with
  | false => rfl
  | true => exact absurd (blt_iff.1 hb) (by omega)
theorem beq_ok {m n : Nat} (h : m = n) : Nat.beq m n = true := by subst h; exact Nat.beq_refl m
theorem beq_no {m n : Nat} (h : m ≠ n) : Nat.beq m n = false := by
  cases hb : Nat.beq m n with
  | false => rfl
  | true => exact absurd (Nat.eq_of_beq_eq_true hb) h
theorem natOf_nat (k : IntKind) (n : Nat) : natOf (.int k (n : Int)) = some n := Eq.trans rfl rfl
theorem natOf_lit (k : IntKind) (n : Nat) : natOf (.int k (no_index (OfNat.ofNat n))) = some n := Eq.trans rfl rfl
theorem some_map {α β : Type} (f : α → β) (a : α) : Option.map f (some a) = some (f a) := Eq.trans rfl rfl
theorem none_map {α β : Type} (f : α → β) : Option.map f (none : Option α) = none := Eq.trans rfl rfl
/-- the bounds of a slicing -/
theorem bounds_lh {len cap l h : Nat} {a b : Value} (ha : natOf a = some l) (hb : natOf b = some h) (h1 : l ≤ h) (h2 : h ≤ cap) : boundsC len cap (some a) (some b) none = some (l, h, cap) := by
  simp [boundsC, ha, hb, ble_ok h1, ble_ok h2, ble_ok (Nat.le_refl cap)]
theorem bounds_h {len cap h : Nat} {b : Value} (hb : natOf b = some h) (h2 : h ≤ cap) : boundsC len cap none (some b) none = some (0, h, cap) := by
  simp [boundsC, hb, ble_ok (Nat.zero_le h), ble_ok h2, ble_ok (Nat.le_refl cap)]
theorem bounds_l {len cap l : Nat} {a : Value} (ha : natOf a = some l) (h1 : l ≤ len) (h2 : len ≤ cap) : boundsC len cap (some a) none none = some (l, len, cap) := by
  simp [boundsC, ha, ble_ok h1, ble_ok h2, ble_ok (Nat.le_refl cap)]
theorem bounds_all {len cap : Nat} (h2 : len ≤ cap) : boundsC len cap none none none = some (0, len, cap) := by
  simp [boundsC, ble_ok (Nat.zero_le len), ble_ok h2, ble_ok (Nat.le_refl cap)]
section
variable {P : Program} {Γ : Env} {ρ : Operand → Value} {o : Oper} {s : CS} {n lim : Nat} {g : Nat → Fam} {rd wr : List Nat}
/-- a piece of a slice -/
theorem slice_sl {t e : TypeId} {z b : Nat} {zs : List Value} {j : TI} {f u off len cap l h m : Nat} {lo hi : Option Value} (ht : Γ.ti.at t = some ⟨.slice e, z, b, zs⟩) (he : Γ.ti.at e = some j) (hb : boundsC len cap lo hi none = some (l, h, m)) (hu : u % 1024 = 0 ∨ u % 1024 = j.size + 1) :
    opSlice Γ s t (.slice (some (mkA f u off)) len cap) lo hi none = some (.slice (some (mkA f u (off + l * j.size))) (h - l) (m - l), s) := by
  unfold opSlice
  rw [ht]
  simp only [he, hb]
  unfold cutC
  simp only [ver_mk, plus_mk]
  rcases hu with hu | hu
  · rw [beq_ok hu]; rfl
  · rw [beq_ok hu]; simp
theorem slice_none {t e : TypeId} {z b : Nat} {zs : List Value} {j : TI} {lo hi : Option Value} (ht : Γ.ti.at t = some ⟨.slice e, z, b, zs⟩) (he : Γ.ti.at e = some j) (hb : boundsC 0 0 lo hi none = some (0, 0, 0)) :
    opSlice Γ s t (.slice none 0 0) lo hi none = some (.slice none 0 0, s) := by
  unfold opSlice
  rw [ht]
  simp only [he, hb]
/-- a piece of a string -/
theorem slice_str {t : TypeId} {z b : Nat} {zs : List Value} {x : ByteArray} {l h m : Nat} {lo hi : Option Value} (ht : Γ.ti.at t = some ⟨.string, z, b, zs⟩) (hb : boundsC x.size x.size lo hi none = some (l, h, m)) : opSlice Γ s t (.string x) lo hi none = some (.string (x.extract l h), s) := by
  unfold opSlice
  rw [ht]
  simp only [hb, cutStr, Option.isNone_none, cond_true]
/-- a piece of an array -/
theorem slice_arr {t arr e : TypeId} {z b z2 b2 N : Nat} {zs zs2 : List Value} {j : TI} {f u off l h m : Nat} {lo hi : Option Value} (ht : Γ.ti.at t = some ⟨.pointer arr, z, b, zs⟩) (ha : Γ.ti.at arr = some ⟨.array N e, z2, b2, zs2⟩) (he : Γ.ti.at e = some j) (hN : N ≤ 1000000000) (hb : boundsC N N lo hi none = some (l, h, m)) (hu : u % 1024 = 0) :
    opSlice Γ s t (.pointer (some (mkA f u off))) lo hi none = some (.slice (some (mkA f u (off + l * j.size))) (h - l) (m - l), s) := by
  unfold opSlice
  rw [ht]
  simp only [ha, cutArr, he, ble_ok hN, sel_true, hb, cutC, ver_mk, plus_mk, beq_ok hu, Bool.true_or, cond_true]
theorem cut_eq {l : List Value} {off k : Nat} (h : off + k ≤ l.length) : cut l off k = some ((l.drop off).take k) := by
  unfold cut
  have : ((l.drop off).take k).length = k := by simp; omega
  simp only [this, Nat.beq_refl, cond_true]
/-- reading the first elements of a slice -/
theorem first_sl {f u off len cap e k : Nat} {cs : List Value} (hr : rowOf (g f).rows u = some cs) (hk : off + k * e ≤ cs.length) (hl : lim ≤ f) :
    CS.firstCells (St n g lim rd wr) e k (.slice (some (mkA f u off)) len cap) = some ((cs.drop off).take (k * e), St n g lim rd wr) := by
  unfold CS.firstCells
  simp only
  cases hz : Nat.beq (k * e) 0 with
  | true => simp [Nat.eq_of_beq_eq_true hz]
  | false =>
    simp only [cond_false, readRow_st, ver_mk, block_mk, hr, off_mk, cut_eq hk, ins_ge rd hl]
theorem first_slq {f u off len cap e k : Nat} {cs : List Value} (hr : rowOf (g f).rows u = some cs) (hk : off + k * e ≤ cs.length) (h0 : k * e ≠ 0) :
    CS.firstCells (St n g lim rd wr) e k (.slice (some (mkA f u off)) len cap) = some ((cs.drop off).take (k * e), St n g lim (ins lim rd f) wr) := by
  unfold CS.firstCells
  simp only [beq_no h0, cond_false, readRow_st, ver_mk, block_mk, hr, off_mk, cut_eq hk]
theorem first_zero {x : Option Addr} {len cap e k : Nat} (h0 : k * e = 0) : CS.firstCells s e k (.slice x len cap) = some ([], s) := by
  unfold CS.firstCells
  simp only [beq_ok h0, cond_true]
theorem first_str {b : ByteArray} {k : Nat} (h : k ≤ b.size) : CS.firstCells s 1 k (.string b) = some (byteVs (b.extract 0 k), s) := by
  unfold CS.firstCells
  simp [ble_ok h]
theorem ext_all (b : ByteArray) : b.extract 0 b.size = b := by
  apply ByteArray.ext
  simp
/-- bytes as values -/
def bvs (l : List UInt8) : List Value := l.map vb
theorem byteVs_eq (b : ByteArray) : byteVs b = bvs b.data.toList := Eq.trans rfl rfl
theorem bvs_len (l : List UInt8) : (bvs l).length = l.length := by simp [bvs]
theorem bvs_app (l m : List UInt8) : bvs (l ++ m) = bvs l ++ bvs m := by simp [bvs]
theorem bvs_take (l : List UInt8) (k : Nat) : (bvs l).take k = bvs (l.take k) := by simp [bvs, List.map_take]
theorem bvs_drop (l : List UInt8) (k : Nat) : (bvs l).drop k = bvs (l.drop k) := by simp [bvs, List.map_drop]
theorem bvs_get {l : List UInt8} {k : Nat} (h : k < l.length) : (bvs l)[k]? = some (vb (l.getD k 0)) := by
  unfold bvs
  rw [List.getElem?_map, List.getD_eq_getElem?_getD, List.getElem?_eq_getElem h]; rfl
theorem bvs_one (l : List UInt8) : (bvs l).all oneC = true := by
  rw [List.all_eq_true]
  intro x hx
  obtain ⟨c, _, rfl⟩ := List.mem_map.1 hx
  rfl
theorem bvs_plain (l : List UInt8) : (bvs l).all (plainV 3) = true := by
  rw [List.all_eq_true]
  intro x hx
  obtain ⟨c, _, rfl⟩ := List.mem_map.1 hx
  rfl
theorem allU8_bvs : ∀ (l : List UInt8), allU8 (bvs l) = some l
  | [] => rfl
  | c :: l => by
    show (match allU8 (bvs l) with | some r => some (UInt8.ofNat (c.toNat : Int).toNat :: r) | none => none) = _
    rw [allU8_bvs l]
    simp
theorem isU8_of {e : TypeId} {z b : Nat} {zs : List Value} (h : Γ.ti.at e = some ⟨.int .u8, z, b, zs⟩) : isU8 Γ e = true := by unfold isU8; rw [h]
/-- bytes to a string -/
theorem conv_str {src dst e : TypeId} {z b z2 b2 z3 b3 : Nat} {zs zs2 zs3 : List Value} {s' : CS} {x : Option Addr} {len cap : Nat} {l : List UInt8} (ht : Γ.ti.at src = some ⟨.slice e, z, b, zs⟩) (hd : Γ.ti.at dst = some ⟨.string, z2, b2, zs2⟩) (he : Γ.ti.at e = some ⟨.int .u8, z3, b3, zs3⟩)
    (hf : CS.firstCells s 1 len (.slice x len cap) = some (bvs l, s')) : opConvert P Γ ρ o s src dst (.slice x len cap) = some (.string ⟨l.toArray⟩, s') := by
  unfold opConvert
  rw [ht, hd]
  simp only [isU8_of he, cond_true, hf, strC, allU8_bvs]
/-- a string to bytes -/
theorem conv_bytes {src dst e : TypeId} {z b z2 b2 z3 b3 : Nat} {zs zs2 zs3 : List Value} {x : ByteArray} (ht : Γ.ti.at src = some ⟨.string, z, b, zs⟩) (hd : Γ.ti.at dst = some ⟨.slice e, z2, b2, zs2⟩) (he : Γ.ti.at e = some ⟨.int .u8, z3, b3, zs3⟩) (hs : x.size ≤ 1000000000) :
    opConvert P Γ ρ o (St n g lim rd wr) src dst (.string x) = some (.slice (some (mkA n (n * 1024 + 2) 0)) x.size x.size, St (n + 1) (fupd g n ⟨false, [(n * 1024 + 2, byteVs x)], none⟩) lim rd wr) := by
  unfold opConvert
  rw [ht, hd]
  simp only [isU8_of he, ble_ok hs, Bool.and_true, cond_true, newRow_st, sliceC]
/-- a slice that a call has made: its row is none that was there before number m -/
def OwnR (m : Nat) (g : Nat → Fam) (n e : Nat) (ao : Option Addr) (len : Nat) (cells : List Value) : Prop :=
  cells.length = len * e ∧ ((ao = none ∧ len = 0) ∨ ∃ f u rest, ao = some (mkA f u 0) ∧ g f = ⟨false, (u, cells) :: rest, none⟩ ∧ m ≤ f ∧ f < n ∧ u / 1024 < n ∧ u % 1024 = e + 1)
theorem OwnR.nil (m : Nat) (g : Nat → Fam) (n e : Nat) : OwnR m g n e none 0 [] := ⟨by simp, .inl ⟨rfl, rfl⟩⟩
theorem OwnR.keep {m n' e len : Nat} {g' : Nat → Fam} {ao : Option Addr} {cells : List Value} (h : OwnR m g n e ao len cells) (hg : ∀ i, m ≤ i → i < n → g' i = g i) (hn : n ≤ n') : OwnR m g' n' e ao len cells := by
  obtain ⟨h1, h⟩ := h
  refine ⟨h1, h.imp id ?_⟩
  rintro ⟨f, u, rest, k1, k2, k3, k4, k5, k6⟩
  exact ⟨f, u, rest, k1, by rw [hg f k3 k4]; exact k2, k3, by omega, by omega, k6⟩
theorem OwnR.low {m m' e len : Nat} {ao : Option Addr} {cells : List Value} (h : OwnR m g n e ao len cells) (hm : m' ≤ m) : OwnR m' g n e ao len cells := by
  obtain ⟨h1, h⟩ := h
  refine ⟨h1, h.imp id ?_⟩
  rintro ⟨f, u, rest, k1, k2, k3, k4, k5, k6⟩
  exact ⟨f, u, rest, k1, k2, by omega, k4, k5, k6⟩
/-- what a call leaves that makes a slice: the state that it leaves, the slice -/
structure Made (n : Nat) (g : Nat → Fam) (e : Nat) (ao : Option Addr) (len : Nat) (cells : List Value) (n' : Nat) (g' : Nat → Fam) : Prop where
  own : OwnR n g' n' e ao len cells
  le : n ≤ n'
  old : ∀ i, i < n → g' i = g i
theorem OwnR.first {m e len k : Nat} {ao : Option Addr} {cells : List Value} (h : OwnR m g n e ao len cells) (hl : lim ≤ m) (hk : k ≤ len) : CS.firstCells (St n g lim rd wr) e k (.slice ao len len) = some (cells.take (k * e), St n g lim rd wr) := by
  obtain ⟨h1, h⟩ := h
  rcases h with ⟨rfl, rfl⟩ | ⟨f, u, rest, rfl, k2, k3, k4, k5, k6⟩
  · have : k = 0 := by omega
    subst this
    rw [first_zero (by simp)]
    simp
  · have hkl : k * e ≤ len * e := Nat.mul_le_mul_right e hk
    rw [first_sl (cs := cells) (by rw [k2]; simp [rowOf, Nat.beq_refl]) (by omega) (by omega)]
    simp
/-- appending to a slice that the call has made -/
theorem OwnR.append {m e len k bytes : Nat} {ao : Option Addr} {cells xs : List Value} {y : Value} {rd' : List Nat} (h : OwnR m g n e ao len cells) (hm : m ≤ n) (hl : lim ≤ m) (hlen : lenC y = some k) (hy : CS.firstCells (St n g lim rd wr) e k y = some (xs, St n g lim rd' wr)) (hx : xs.length = k * e) (ho : xs.all oneC = true) (he : 0 < e ∧ e < 1000)
    (hb : (len + k) * (bytes + 1) ≤ 1000000000) :
    ∃ ao' n' g', CS.append (St n g lim rd wr) e bytes ao len len y = some (.slice ao' (len + k) (len + k), St n' g' lim rd' wr) ∧ OwnR m g' n' e ao' (len + k) (cells ++ xs) ∧ n ≤ n' ∧ n' ≤ n + 1 ∧ ∀ i, i < m → g' i = g i := by
  have c1 : (Nat.blt 1000000000 ((len + k) * (bytes + 1)) || Nat.beq e 0 || Nat.ble 1000 e || not (xs.all oneC)) = false := by
    rw [blt_no hb, beq_no (by omega), ble_no (by omega), ho]; rfl
  obtain ⟨h1, h⟩ := h
  rcases h with ⟨rfl, rfl⟩ | ⟨f, u, rest, rfl, k2, k3, k4, k5, k6⟩
  · have hc : cells = [] := by simpa using h1
    subst hc
    cases hk : Nat.beq k 0 with
    | true =>
      have := Nat.eq_of_beq_eq_true hk
      subst this
      have hx0 : xs = [] := by simpa using hx
      subst hx0
      refine ⟨none, n, g, ?_, OwnR.nil _ _ _ _, Nat.le_refl _, by omega, fun _ _ => rfl⟩
      unfold CS.append
      rw [hlen]; simp only [hy, c1, cond_false, hk, cond_true]
    | false =>
      refine ⟨some (mkA n (n * 1024 + (e + 1)) 0), n + 1, fupd g n ⟨false, [(n * 1024 + (e + 1), xs)], none⟩, ?_, ⟨by simpa using hx, .inr ⟨n, _, [], rfl, ?_, hm, by omega, by omega, by omega⟩⟩, by omega, by omega, fun i hi => fupd_ne _ _ _ _ (by omega)⟩
      · unfold CS.append
        rw [hlen]; simp only [hy, c1, cond_false, hk, newRow_st, sliceC]
      · rw [fupd_same]; simp
  · cases hk : Nat.beq k 0 with
    | true =>
      have := Nat.eq_of_beq_eq_true hk
      subst this
      have hx0 : xs = [] := by simpa using hx
      subst hx0
      refine ⟨_, n, g, ?_, ⟨by simpa using h1, .inr ⟨f, u, rest, rfl, by simpa using k2, k3, k4, k5, k6⟩⟩, Nat.le_refl _, by omega, fun _ _ => rfl⟩
      unfold CS.append
      rw [hlen]; simp only [hy, c1, cond_false]
      rw [ble_ok (by omega)]; simp only [cond_true, hk]
      rfl
    | false =>
      have hk0 : k ≠ 0 := fun h => by rw [h] at hk; simp at hk
      have hfl : lim ≤ f := by omega
      have hold : (bif Nat.beq len 0 then some ([], St n g lim rd' wr) else CS.firstCells (St n g lim rd' wr) e len (.slice (some (mkA f u 0)) len len)) = some (cells, St n g lim rd' wr) := by
        cases hz : Nat.beq len 0 with
        | true =>
          have := Nat.eq_of_beq_eq_true hz
          subst this
          have : cells = [] := by simpa using h1
          rw [this]; rfl
        | false =>
          rw [cond_false, first_sl (cs := cells) (by rw [k2]; simp [rowOf, Nat.beq_refl]) (by omega) hfl]
          rw [List.drop_zero, List.take_of_length_le (by omega)]
      refine ⟨some (mkA f (n * 1024 + (e + 1)) 0), n + 1, fupd g f ⟨false, (n * 1024 + (e + 1), cells ++ xs) :: (u, cells) :: rest, none⟩, ?_, ⟨by rw [List.length_append, h1, hx, Nat.add_mul], .inr ⟨f, _, (u, cells) :: rest, rfl, ?_, k3, by omega, by omega, by omega⟩⟩, by omega, by omega, fun i hi => fupd_ne _ _ _ _ (by omega)⟩
      · unfold CS.append
        rw [hlen]
        simp only [hy, c1, cond_false]
        rw [ble_no (by omega)]
        simp only [cond_false, hold, ver_mk]
        rw [beq_no (by omega), beq_ok k6]
        simp only [cond_false, cond_true]
        unfold CS.grow
        show (match (g f).ro, rowOf (g f).rows u with | false, some cs => _ | _, _ => none) = _
        rw [k2]
        simp only
        have hrow : rowOf ((u, cells) :: rest) u = some cells := by simp [rowOf, Nat.beq_refl]
        rw [hrow]
        simp only
        rw [beq_ok (show (mkA f u 0).off + len * e = cells.length by rw [off_mk]; omega), sel_true, block_mk, objPut_inr]
        have hd : dropTo (objAt (.inr g) f).rows u = (u, cells) :: rest := by
          rw [objAt_inr, k2]; simp [dropTo, Nat.beq_refl]
        rw [ver_mk, hd, ins_ge wr hfl]
      · rw [fupd_same]
/-- a slice of one element, written out -/
theorem build_one {t e : TypeId} {z b : Nat} {zs : List Value} {j : TI} {x : Operand} {v0 : Value} (ht : Γ.ti.at t = some ⟨.slice e, z, b, zs⟩) (he : Γ.ti.at e = some j) (hj : j.size = 1) (hz : j.zero = [v0]) (hv : (ρ x).cells = #[ρ x]) :
    opBuildSlice Γ (St n g lim rd wr) ρ t 1 [(0, x)] = some (.slice (some (mkA n (n * 1024 + 0) 0)) 1 1, St (n + 1) (fupd g n ⟨false, [(n * 1024 + 0, [ρ x])], none⟩) lim rd wr) := by
  unfold opBuildSlice elemOf?
  rw [ht]
  simp only [he, hj, hz, partsOf, placeA, hv, Nat.zero_mul]
  simp [buildC, fillC, splice, newRow_st, sliceC, ble_ok, blt_ok]
theorem cop_buildSlice {call : CallC} {d : Option Tmp} {ty t : TypeId} {k : Nat} {pos : String} {e : Array Edge} {q : Option (Nat × Bool)} {parts : Array (Nat × Operand)} : cop P Γ call ρ ⟨d, .buildSlice t k parts, ty, pos, e, q⟩ s = opBuildSlice Γ s ρ t k parts.toList := Eq.trans rfl rfl
/-- a call, by the rules: whatever it gives -/
theorem callR_ex {f : FuncId} {fn : Func} {body : Code} {args : List Value} {R : Value → CS → Prop} (n : Nat) (hax : Γ.ax f = none) (hf : Γ.fn.at f = some fn) (hb : fn.body = some body) (hn : fn.ntmps = n) (hl : args.length ≤ n)
    (h : W P Γ body (Fr.ofArgs args 0 (Fr.of n fun _ => undef)) s fun e fr' s1 => (e = .normal ∨ e = .ret) ∧ ∃ vs s2, resC Γ fr' s1 fn.results.toList = some (vs, s2) ∧ R (tupC vs) s2) : ∃ v s2, callR P Γ f args s = some (v, s2) ∧ R v s2 := by
  obtain ⟨e, fr', s1, h1, he, vs, s2, hr, hR⟩ := h
  exact ⟨_, s2, callR_go n hax hf hb hn hl ⟨e, fr', s1, h1, he, vs, hr, rfl⟩, hR⟩
theorem op_append {x y : Operand} {t tx : TypeId} (hs : srcT Γ tx = true) : opBuiltin P Γ ρ o s .append [x, y] [t, tx] = opAppend Γ s t (ρ y) (ρ x) := by
  show sel (srcT Γ tx) _ none = _
  rw [hs]; rfl
theorem app_sl {t : TypeId} {y : Value} {base : Option Addr} {len cap : Nat} {j : TI} (he : elemOf? Γ t = some j) : opAppend Γ s t y (.slice base len cap) = s.append j.size j.bytes base len cap y := by
  unfold opAppend
  simp only [he]
end
end Go.Proofs.Ytfalnphlgfoflaa
namespace Go.Proofs.Ytfalnphlgfoflaa
open Go Go.RowKit
section
variable {P : Program} {Γ : Env} {ρ : Operand → Value} {s : CS} {d : Option Tmp} {ty : TypeId} {pos : String} {t t2 : TypeId} {x y : Operand} {e : Array Edge} {g : Option (Nat × Bool)}
theorem nilT_str (d : TypeDesc) (a : ByteArray) : nilT d (.string a) = none := by cases d <;> rfl
theorem nilT_bool (d : TypeDesc) (a : Bool) : nilT d (.bool a) = none := by cases d <;> rfl
theorem eqC_none {op : BinOp} {v w : Value} (h : ∀ d, nilT d v = none) : eqC Γ t op v w = none := by
  unfold eqC
  cases Γ.ti.at t with
  | none => rfl
  | some i => cases op <;> first | rfl | (simp only [h]; rfl)
theorem opBin_via {op : BinOp} {v w r : Value} {o : Oper} (ho : o.op = .binOp op t x y t2) (hx : ρ x = v) (hy : ρ y = w) (hc : binC op v w = none) (hn : ∀ d, nilT d v = none) (hpv : plainV 3 v = true) (hpw : plainV 3 w = true) (hg : eqGuard op t x y v w = pure ())
    (hr : eval0 P (binOp op t v w) = some r) (hp : plainV 3 r = true) : opBin P Γ ρ o s t op v w = some (r, s) := by
  unfold opBin
  rw [hc]
  simp only
  rw [eqC_none hn]
  simp only [orPure]
  unfold pureC
  have hops : (o.op.operands.toList.all fun z => plainV 3 (ρ z)) = true := by
    rw [ho]
    simp [Op.operands, hx, hy, hpv, hpw]
  rw [hops]
  have he : execOp ρ o = (do pure (.value (← binOp op t v w))) := by
    unfold execOp
    rw [ho]
    simp only [hx, hy, hg]
    simp
  rw [he]
  have hv : eval0 P (do pure (Next.value (← binOp op t v w))) = some (.value r) := by
    rw [eval0_bind hr]; rfl
  simp only [cond_true]
  rw [hv]
  show retC s (bif plainV 3 r then some r else none) = some (r, s)
  rw [hp]
  rfl
theorem str_beq (a b : ByteArray) : (a.toList == b.toList) = decide (a = b) := by
  rw [ByteArray.toList_eq, ByteArray.toList_eq]
  by_cases h : a = b
  · subst h; simp
  · rw [decide_eq_false h, beq_eq_false_iff_ne]
    intro k
    apply h
    apply ByteArray.ext
    exact Array.toList_inj.1 k
theorem os_eql {a b : ByteArray} (hx : ρ x = .string a) (hy : ρ y = .string b) : opBin P Γ ρ ⟨d, .binOp .eql t x y t2, ty, pos, e, g⟩ s t .eql (.string a) (.string b) = some (.bool (decide (a = b)), s) :=
  opBin_via rfl hx hy rfl (fun d => nilT_str d a) rfl rfl (by unfold eqGuard; simp) (by show some _ = _; rw [str_beq]) rfl
theorem os_neq {a b : ByteArray} (hx : ρ x = .string a) (hy : ρ y = .string b) : opBin P Γ ρ ⟨d, .binOp .neq t x y t2, ty, pos, e, g⟩ s t .neq (.string a) (.string b) = some (.bool (!decide (a = b)), s) :=
  opBin_via rfl hx hy rfl (fun d => nilT_str d a) rfl rfl (by unfold eqGuard; simp) (by show some _ = _; rw [str_beq]) rfl
theorem os_add {a b : ByteArray} (hx : ρ x = .string a) (hy : ρ y = .string b) (h : a.size + b.size ≤ 9223372036854775807) : opBin P Γ ρ ⟨d, .binOp .add t x y t2, ty, pos, e, g⟩ s t .add (.string a) (.string b) = some (.string (a ++ b), s) :=
  opBin_via rfl hx hy rfl (fun d => nilT_str d a) rfl rfl (by unfold eqGuard; simp) (by
    show eval0 P (Op.stringOp .add a b) = _
    unfold Op.stringOp
    simp only
    rw [if_neg (by have : IntKind.i64.max = 9223372036854775807 := by decide
                   omega)]
    rfl) rfl
theorem eval0_equal_bool {a b : Bool} (hd : P.underlying t = some .bool) : eval0 P (Op.equal t (.bool a) (.bool b)) = some (a == b) := by
  unfold Op.equal
  show eval0 P (Op.equalIn (_ + 1) t (.bool a) (.bool b)) = _
  unfold Op.equalIn
  rw [eval0_bind (eval0_underlying hd)]
  rfl
theorem ob_eql {a b : Bool} (hx : ρ x = .bool a) (hy : ρ y = .bool b) (hd : P.underlying t = some .bool) : opBin P Γ ρ ⟨d, .binOp .eql t x y t2, ty, pos, e, g⟩ s t .eql (.bool a) (.bool b) = some (.bool (a == b), s) :=
  opBin_via rfl hx hy rfl (fun d => nilT_bool d a) rfl rfl (by unfold eqGuard; simp) (by
    show eval0 P (do pure (Value.bool (← Op.equal t (.bool a) (.bool b))) : Sem Value) = _
    rw [eval0_bind (eval0_equal_bool hd)]; rfl) rfl
theorem ob_neq {a b : Bool} (hx : ρ x = .bool a) (hy : ρ y = .bool b) (hd : P.underlying t = some .bool) : opBin P Γ ρ ⟨d, .binOp .neq t x y t2, ty, pos, e, g⟩ s t .neq (.bool a) (.bool b) = some (.bool (!(a == b)), s) :=
  opBin_via rfl hx hy rfl (fun d => nilT_bool d a) rfl rfl (by unfold eqGuard; simp) (by
    show eval0 P (do pure (Value.bool (!(← Op.equal t (.bool a) (.bool b)))) : Sem Value) = _
    rw [eval0_bind (eval0_equal_bool hd)]; rfl) rfl
theorem pick_on {v w : Value} {b : Bool} : opPick s v w (.bool b) = some (bif b then v else w, s) := Eq.trans rfl rfl
variable {k k' : IntKind} {a b : Int} {tys : Array TypeId}
theorem o_max (hx : ρ x = .int k a) (hy : ρ y = .int k' b) : opBuiltin P Γ ρ ⟨d, .call ⟨.builtin .max, #[x, y], tys⟩, ty, pos, e, g⟩ s .max [x, y] tys.toList = some (.int k (max a b), s) := by
  show retC s (pureC P ρ _) = _
  have hm : max a b = if b > a then b else a := by rw [Int.max_def]; split <;> split <;> omega
  rw [hm, pureC_of (r := .int k (if b > a then b else a))]
  · rfl
  · show (plainV 3 (ρ x) && (plainV 3 (ρ y) && true)) = true
    rw [hx, hy]; rfl
  · simp [execOp, hx, hy, resolve, invoke, builtin, Builtin.max_, Builtin.max2]
  · rfl
theorem o_min (hx : ρ x = .int k a) (hy : ρ y = .int k' b) : opBuiltin P Γ ρ ⟨d, .call ⟨.builtin .min, #[x, y], tys⟩, ty, pos, e, g⟩ s .min [x, y] tys.toList = some (.int k (min a b), s) := by
  show retC s (pureC P ρ _) = _
  have hm : min a b = if b < a then b else a := by rw [Int.min_def]; split <;> split <;> omega
  rw [hm, pureC_of (r := .int k (if b < a then b else a))]
  · rfl
  · show (plainV 3 (ρ x) && (plainV 3 (ρ y) && true)) = true
    rw [hx, hy]; rfl
  · simp [execOp, hx, hy, resolve, invoke, builtin, Builtin.min_, Builtin.min2]
  · rfl
end
section
variable {P : Program} {Γ : Env} {call : CallC} {ops l : List Oper} {fr : Fr} {s : CS} {d : Option Tmp} {op : Op} {ty : TypeId} {pos : String} {e : Array Edge} {g : Option (Nat × Bool)}
/-- what the slot of operation j of the region holds -/
noncomputable def slotOf (ops : List Oper) (fr : Fr) (j : Nat) : Value := match dstOf ops j with | some t => fr.get t | none => undef
noncomputable def guardV (v : Value) (want : Bool) : Bool := match v with | .bool b => b == want | _ => false
noncomputable def goC {α : Type} (c : Bool) (x y : α) : α := bif c then x else y
theorem goC_true {α : Type} (x y : α) : goC true x y = x := Eq.trans rfl rfl
theorem goC_false {α : Type} (x y : α) : goC false x y = y := Eq.trans rfl rfl
theorem guard_tt : guardV (.bool true) true = true := Eq.trans rfl rfl
theorem guard_tf : guardV (.bool true) false = false := Eq.trans rfl rfl
theorem guard_ft : guardV (.bool false) true = false := Eq.trans rfl rfl
theorem guard_ff : guardV (.bool false) false = true := Eq.trans rfl rfl
theorem slot_zero {t : Tmp} : slotOf (⟨some t, op, ty, pos, e, g⟩ :: l) fr 0 = fr.get t := Eq.trans rfl rfl
theorem slot_succ {o : Oper} {n : Nat} : slotOf (o :: l) fr (n + 1) = slotOf l fr n := by
  unfold slotOf dstOf
  rw [List.getElem?_cons_succ]
theorem stepC_if {j : Nat} {want : Bool} : stepC P Γ call ops ⟨d, op, ty, pos, e, some (j, want)⟩ fr s = goC (guardV (slotOf ops fr j) want) (dstC fr d (cop P Γ call (evalC fr) ⟨d, op, ty, pos, e, some (j, want)⟩ s)) (some (putC fr d undef, s)) := by
  have hw : wantedC ops fr ⟨d, op, ty, pos, e, some (j, want)⟩ = guardV (slotOf ops fr j) want := by
    unfold wantedC slotOf
    simp only
    cases dstOf ops j with
    | none => rfl
    | some t => simp only; cases fr.get t <;> rfl
  unfold stepC
  rw [hw]
  cases guardV (slotOf ops fr j) want with
  | true =>
    rw [goC_true, cond_true]
    cases cop P Γ call (evalC fr) ⟨d, op, ty, pos, e, some (j, want)⟩ s with
    | none => rfl
    | some r => rfl
  | false => rw [goC_false, cond_false]
theorem put_some {t : Tmp} {v : Value} : putC fr (some t) v = fr.put t v := Eq.trans rfl rfl
theorem op_len {ρ : Operand → Value} {o : Oper} {x : Operand} {t : TypeId} : opBuiltin P Γ ρ o s .len [x] [t] = opLen Γ s t (ρ x) := Eq.trans rfl rfl
theorem len_sl {t el : TypeId} {z b n c : Nat} {zs : List Value} {x : Option Addr} (h : Γ.ti.at t = some ⟨.slice el, z, b, zs⟩) : opLen Γ s t (.slice x n c) = some (.int .i64 (n : Int), s) := by unfold opLen; rw [h]
theorem len_str {t : TypeId} {z b : Nat} {zs : List Value} {x : ByteArray} (h : Γ.ti.at t = some ⟨.string, z, b, zs⟩) : opLen Γ s t (.string x) = some (.int .i64 (x.size : Int), s) := by unfold opLen; rw [h]
/-- a region whose slots are told in part -/
theorem W.region_ex {id : Nat} {ops : Array Oper} {Q : Exit → Fr → CS → Prop} (R : Fr → CS → Prop) (h : ∃ r : Fr × CS, runC P Γ (callR P Γ) ops.toList ops.toList fr s = some r ∧ R r.1 r.2) (hq : ∀ fr' s', R fr' s' → Q .normal fr' s') : W P Γ (.region id ops false) fr s Q := by
  obtain ⟨⟨fr', s'⟩, h1, h2⟩ := h
  exact W.region h1 (hq _ _ h2)
theorem W.quiet_ex {id : Nat} {ops : Array Oper} {Q : Exit → Fr → CS → Prop} (R : Fr → CS → Prop) (h : ∃ r : Fr × CS, quietC P Γ (callR P Γ) ops.toList s.n ops.toList fr s = some r ∧ R r.1 r.2) (hq : ∀ fr' s', R fr' s' → Q .normal fr' s') : W P Γ (.region id ops true) fr s Q := by
  obtain ⟨⟨fr', s'⟩, h1, h2⟩ := h
  exact W.quiet h1 (hq _ _ h2)
/-- a call of a known function -/
theorem callR_ax {f : FuncId} {args : List Value} {k : List Value → CS → Option (Value × CS)} {r : Value × CS} (h : Γ.ax f = some k) (hk : k args s = some r) : callR P Γ f args s = some r := by
  refine callR_of (n := 0) ?_
  unfold callC
  rw [h]
  exact hk
end
end Go.Proofs.Ytfalnphlgfoflaa
namespace Go.Proofs.Ytfalnphlgfoflaa
open Go Go.RowKit
section
variable {P : Program} {Γ : Env} {call : CallC} {ops l : List Oper} {o : Oper} {fr fr' : Fr} {s t : CS}
noncomputable def consLg (lg : Lg) (r : Option (List Lg × Fr × CS)) : Option (List Lg × Fr × CS) := match r with
  | some (logs, fr, s) => some (lg :: logs, fr, s)
  | none => none
noncomputable def thenD (s : CS) (r : Option (Fr × CS)) (k : Fr → CS → Option (List Lg × Fr × CS)) : Option (List Lg × Fr × CS) := match r with
  | some (fr, t) => consLg ⟨t.rd, t.wr, s.n, t.n⟩ (k fr (s.outer t))
  | none => none
theorem drawC_nil : drawC P Γ call ops [] fr s = some ([], fr, s) := Eq.trans rfl rfl
theorem drawC_cons : drawC P Γ call ops (o :: l) fr s = thenD s (stepC P Γ call ops o fr s.inner) (drawC P Γ call ops l) := by
  rw [drawC]
  cases stepC P Γ call ops o fr s.inner with
  | none => rfl
  | some r =>
    show (match drawC P Γ call ops l r.1 (s.outer r.2) with | some (logs, fr, s') => _ | none => none) = consLg _ (drawC P Γ call ops l r.1 (s.outer r.2))
    cases drawC P Γ call ops l r.1 (s.outer r.2) with
    | none => rfl
    | some x => rfl
theorem consLg_some (lg : Lg) (logs : List Lg) : consLg lg (some (logs, fr, s)) = some (lg :: logs, fr, s) := Eq.trans rfl rfl
variable {n lim n' : Nat} {g g' : Nat → Fam} {rd wr rd' wr' : List Nat} {ob ob' : Sto}
theorem thenD_some {k : Fr → CS → Option (List Lg × Fr × CS)} : thenD ⟨n, ob, lim, rd, wr⟩ (some (fr, ⟨n', ob', n, rd', wr'⟩)) k = consLg ⟨rd', wr', n, n'⟩ (k fr ⟨n', ob', lim, insAll lim rd rd', insAll lim wr wr'⟩) := Eq.trans rfl rfl
theorem insAll_nil : insAll lim rd [] = rd := Eq.trans rfl rfl
theorem insAll_cons {f : Nat} : insAll lim rd (f :: rd') = insAll lim (ins lim rd f) rd' := Eq.trans rfl rfl
theorem calm_ms {n0 : Nat} {logs : List Lg} {ms : List Nat} (hm : masks ops [] = ms) (h : calmAll clash [] logs ms = true) : calm n0 ops logs = true := by
  unfold calm
  rw [hm, h]
  cases logs.all _ <;> rfl
theorem calmAll_nil {ms : List Nat} {done : List Lg} : calmAll clash done [] ms = true := Eq.trans rfl rfl
theorem calmAll_go {ms : List Nat} {done logs : List Lg} {y : Lg} (h : calmOne clash (nth 0 ms done.length) y done 0 = true) (k : calmAll clash (done ++ [y]) logs ms = true) : calmAll clash done (y :: logs) ms = true := by
  show (_ && _) = true
  rw [h, k]; rfl
theorem meet_nil (a : List Nat) : meet a [] = false := by
  unfold meet
  induction a with
  | nil => rfl
  | cons x a ih => rw [List.any_cons, ih]; rfl
theorem clash_y0 {x : Lg} {lo hi : Nat} : clash x ⟨[], [], lo, hi⟩ = false := by
  unfold clash within
  simp [meet_nil]
theorem calmOne_y0 {m lo hi : Nat} : ∀ {done : List Lg} {i : Nat}, calmOne clash m ⟨[], [], lo, hi⟩ done i = true
  | [], _ => rfl
  | x :: l, i => by
    show ((Nat.testBit m i || !clash x _) && calmOne clash m _ l (i + 1)) = true
    rw [clash_y0, calmOne_y0]; simp
theorem calmAll_y0 {ms : List Nat} {done logs : List Lg} {lo hi : Nat} : calmAll clash done (⟨[], [], lo, hi⟩ :: logs) ms = calmAll clash (done ++ [⟨[], [], lo, hi⟩]) logs ms := by
  show (calmOne _ _ _ _ _ && _) = _
  rw [calmOne_y0]; rfl
theorem calmAll_cons {ms : List Nat} {done logs : List Lg} {y : Lg} : calmAll clash done (y :: logs) ms = (calmOne clash (nth 0 ms done.length) y done 0 && calmAll clash (done ++ [y]) logs ms) := Eq.trans rfl rfl
theorem calmOne_nil {m i : Nat} {y : Lg} : calmOne clash m y [] i = true := Eq.trans rfl rfl
theorem calmOne_set {m i : Nat} {x y : Lg} {done : List Lg} (h : Nat.testBit m i = true) : calmOne clash m y (x :: done) i = calmOne clash m y done (i + 1) := by
  show ((Nat.testBit m i || _) && _) = _
  rw [h]; rfl
theorem calmOne_ok {m i : Nat} {x y : Lg} {done : List Lg} (h : clash x y = false) : calmOne clash m y (x :: done) i = calmOne clash m y done (i + 1) := by
  show ((Nat.testBit m i || !clash x y) && _) = _
  rw [h]; simp
theorem nth_zero {α : Type} {d x : α} {l : List α} : nth d (x :: l) 0 = x := Eq.trans rfl rfl
theorem nth_succ {α : Type} {d x : α} {l : List α} {i : Nat} : nth d (x :: l) (i + 1) = nth d l i := Eq.trans rfl rfl
/-- two operations of which the former only makes, and the latter touches nothing of what it makes -/
theorem clash_x0 {lo hi lo' hi' : Nat} {r w : List Nat} (hr : ∀ f, f ∈ r → f < lo ∨ hi ≤ f) (hw : ∀ f, f ∈ w → f < lo ∨ hi ≤ f) : clash ⟨[], [], lo, hi⟩ ⟨r, w, lo', hi'⟩ = false := by
  have hq : ∀ l : List Nat, (∀ f, f ∈ l → f < lo ∨ hi ≤ f) → within lo hi l = false := by
    intro l hl
    unfold within
    rw [List.any_eq_false]
    intro f hf
    rcases hl f hf with h | h
    · simp [ble_no h]
    · simp [blt_no h]
  unfold clash
  simp [hq r hr, hq w hw, meet]
theorem clash_gen {rx wx ry wy : List Nat} {lo hi lo' hi' : Nat} (h1 : ∀ f, f ∈ wx → f ∉ ry ∧ f ∉ wy) (h2 : ∀ f, f ∈ rx → f ∉ wy) (hr : ∀ f, f ∈ ry → f < lo ∨ hi ≤ f) (hw : ∀ f, f ∈ wy → f < lo ∨ hi ≤ f) : clash ⟨rx, wx, lo, hi⟩ ⟨ry, wy, lo', hi'⟩ = false := by
  have hq : ∀ l : List Nat, (∀ f, f ∈ l → f < lo ∨ hi ≤ f) → within lo hi l = false := by
    intro l hl
    unfold within
    rw [List.any_eq_false]
    intro f hf
    rcases hl f hf with h | h
    · simp [ble_no h]
    · simp [blt_no h]
  have hm : ∀ a b : List Nat, (∀ f, f ∈ a → f ∉ b) → meet a b = false := by
    intro a b hab
    unfold meet
    rw [List.any_eq_false]
    intro f hf hc
    exact hab f hf (has_mem hc)
  unfold clash
  simp [hq ry hr, hq wy hw, hm wx ry fun f hf => (h1 f hf).1, hm wx wy fun f hf => (h1 f hf).2, hm rx wy h2]
/-- a region that draws: the logs told -/
theorem W.draw_ex {id : Nat} {ops : Array Oper} {Q : Exit → Fr → CS → Prop} {logs : List Lg} {ms : List Nat} (hm : masks ops.toList [] = ms) (h : drawC P Γ (callR P Γ) ops.toList ops.toList fr s = some (logs, fr', t)) (hc : calmAll clash [] logs ms = true) (hq : Q .normal fr' t) : W P Γ (.region id ops true) fr s Q :=
  W.draw h (calm_ms hm hc) hq
variable {ρ : Operand → Value}
/-- a variable is made -/
theorem alloc_st {e : TypeId} {d : TypeDesc} {z b : Nat} {zs : List Value} (h : Γ.ti.at e = some ⟨d, z, b, zs⟩) : opAlloc Γ (St n g lim rd wr) e = some (.pointer (some (mkA n (n * 1024 + 0) 0)), St (n + 1) (fupd g n ⟨false, [(n * 1024 + 0, zs)], none⟩) lim rd wr) := by
  unfold opAlloc
  rw [h]
  simp only [newRow_st, ptrC]
theorem box_st {cs : List Value} : ptrC (CS.newRow (St n g lim rd wr) 0 cs) = some (.pointer (some (mkA n (n * 1024 + 0) 0)), St (n + 1) (fupd g n ⟨false, [(n * 1024 + 0, cs)], none⟩) lim rd wr) := by
  rw [newRow_st]; rfl
theorem idx_arr {ty e : TypeId} {z b N b2 : Nat} {zs z2 : List Value} {d : TypeDesc} {f u off k : Nat} (h : Γ.ti.at ty = some ⟨.array N e, z, b, zs⟩) (he : Γ.ti.at e = some ⟨d, 1, b2, z2⟩) (hk : k < N) : opIndexAddr Γ s ty (.pointer (some (mkA f u off))) (some k) = some (.pointer (some (mkA f u (off + k))), s) := by
  unfold opIndexAddr
  rw [h]
  simp only [he, stepA, blt_ok hk, cond_true, plus_mk, Nat.mul_one]
theorem idx_sl {ty e : TypeId} {z b b2 len cap : Nat} {zs z2 : List Value} {d : TypeDesc} {f u off k : Nat} (h : Γ.ti.at ty = some ⟨.slice e, z, b, zs⟩) (he : Γ.ti.at e = some ⟨d, 1, b2, z2⟩) (hk : k < len) : opIndexAddr Γ s ty (.slice (some (mkA f u off)) len cap) (some k) = some (.pointer (some (mkA f u (off + k))), s) := by
  unfold opIndexAddr
  rw [h]
  simp only [he, stepA, blt_ok hk, cond_true, plus_mk, Nat.mul_one]
/-- an element of an array value -/
theorem idx_agg {ty e : TypeId} {z b N b2 : Nat} {zs z2 : List Value} {d : TypeDesc} {k : Nat} {cs : Array Value} {v : Value} (h : Γ.ti.at ty = some ⟨.array N e, z, b, zs⟩) (he : Γ.ti.at e = some ⟨d, 1, b2, z2⟩) (hd : aggT d = false) (hk : k < N) (hv : cs.toList[k]? = some v) : opIndex Γ s ty (.agg cs) (some k) = some (v, s) := by
  unfold opIndex
  rw [h]
  simp only [he, blt_ok hk, cond_true, partC, hd, cond_false, Nat.mul_one, hv, retC]
/-- one cell is read -/
theorem ld_one {ty : TypeId} {d : TypeDesc} {z b f u off : Nat} {zs cs : List Value} {v : Value} (h : Γ.ti.at ty = some ⟨d, z, b, zs⟩) (hd : aggT d = false) (hr : rowOf (g f).rows u = some cs) (hv : cs[off]? = some v) : opLoad Γ (St n g lim rd wr) ty (.pointer (some (mkA f u off))) = some (v, St n g lim (ins lim rd f) wr) := by
  unfold opLoad CS.loadVar
  rw [h]
  simp only [readRow_st, ver_mk, block_mk, hr, partC, hd, cond_false, off_mk, hv]
/-- an array or a struct is read -/
theorem ld_all {ty : TypeId} {d : TypeDesc} {z b f u : Nat} {zs cs : List Value} (h : Γ.ti.at ty = some ⟨d, z, b, zs⟩) (hd : aggT d = true) (hr : rowOf (g f).rows u = some cs) (hv : cs.length = z) : opLoad Γ (St n g lim rd wr) ty (.pointer (some (mkA f u 0))) = some (.agg cs.toArray, St n g lim (ins lim rd f) wr) := by
  unfold opLoad CS.loadVar
  rw [h]
  simp only [readRow_st, ver_mk, block_mk, hr, partC, hd, cond_true, off_mk]
  rw [cut_eq (by omega), List.drop_zero, List.take_of_length_le (by omega)]
theorem ld_part {ty : TypeId} {d : TypeDesc} {z b f u off : Nat} {zs cs : List Value} (h : Γ.ti.at ty = some ⟨d, z, b, zs⟩) (hd : aggT d = true) (hr : rowOf (g f).rows u = some cs) (hv : off + z ≤ cs.length) : opLoad Γ (St n g lim rd wr) ty (.pointer (some (mkA f u off))) = some (.agg ((cs.drop off).take z).toArray, St n g lim (ins lim rd f) wr) := by
  unfold opLoad CS.loadVar
  rw [h]
  simp only [readRow_st, ver_mk, block_mk, hr, partC, hd, cond_true, off_mk]
  rw [cut_eq (by omega)]
/-- one cell is written -/
theorem st_one {ty : TypeId} {d : TypeDesc} {b f u off : Nat} {zs cs : List Value} {v : Value} {es : Option (List (Value × Value))} (h : Γ.ti.at ty = some ⟨d, 1, b, zs⟩) (hg : g f = ⟨false, [(u, cs)], es⟩) (ho : off < cs.length) (hv : oneC v = true) : opStore Γ (St n g lim rd wr) ty [v] (.pointer (some (mkA f u off))) = some (undef, St n (fupd g f ⟨false, [(u, cs.set off v)], none⟩) lim rd (ins lim wr f)) := by
  unfold opStore
  rw [h]
  simp only
  rw [beq_ok (by rfl), cond_true, write_st hg (by show off + 1 ≤ cs.length; omega) (by simp [hv]), splice_one ho]
  rfl
/-- a variable is written whole -/
theorem st_all {ty : TypeId} {d : TypeDesc} {z b f u : Nat} {zs cs vs : List Value} {es : Option (List (Value × Value))} (h : Γ.ti.at ty = some ⟨d, z, b, zs⟩) (hg : g f = ⟨false, [(u, cs)], es⟩) (hz : vs.length = z) (ho : cs.length = z) (hv : vs.all oneC = true) : opStore Γ (St n g lim rd wr) ty vs (.pointer (some (mkA f u 0))) = some (undef, St n (fupd g f ⟨false, [(u, vs)], none⟩) lim rd (ins lim wr f)) := by
  unfold opStore
  rw [h]
  simp only
  rw [beq_ok hz, cond_true, write_st hg (by omega) hv, splice_all (by omega)]
  rfl
theorem cells_int (k : IntKind) (m : Int) : (Value.int k m).cells = #[.int k m] := Eq.trans rfl rfl
theorem cells_vw (x : UInt32) : (vw x).cells = #[vw x] := Eq.trans rfl rfl
theorem cells_vb (x : UInt8) : (vb x).cells = #[vb x] := Eq.trans rfl rfl
theorem cells_vq (x : UInt64) : (vq x).cells = #[vq x] := Eq.trans rfl rfl
theorem cells_agg (cs : Array Value) : (Value.agg cs).cells = cs := Eq.trans rfl rfl
theorem cells_bool (b : Bool) : (Value.bool b).cells = #[.bool b] := Eq.trans rfl rfl
theorem cells_str (b : ByteArray) : (Value.string b).cells = #[.string b] := Eq.trans rfl rfl
/-- words as values -/
def wvs (l : List UInt32) : List Value := l.map vw
theorem wvs_len (l : List UInt32) : (wvs l).length = l.length := by simp [wvs]
theorem wvs_get {l : List UInt32} {k : Nat} (h : k < l.length) : (wvs l)[k]? = some (vw (l.getD k 0)) := by
  unfold wvs
  rw [List.getElem?_map, List.getD_eq_getElem?_getD, List.getElem?_eq_getElem h]; rfl
theorem wvs_set (l : List UInt32) (k : Nat) (x : UInt32) : (wvs l).set k (vw x) = wvs (l.set k x) := by
  unfold wvs
  rw [List.map_set]
theorem wvs_one (l : List UInt32) : (wvs l).all oneC = true := by
  rw [List.all_eq_true]
  intro x hx
  obtain ⟨c, _, rfl⟩ := List.mem_map.1 hx
  rfl
theorem wvs_plain (l : List UInt32) : (wvs l).all (plainV 2) = true := by
  rw [List.all_eq_true]
  intro x hx
  obtain ⟨c, _, rfl⟩ := List.mem_map.1 hx
  rfl
theorem vw_one (x : UInt32) : oneC (vw x) = true := Eq.trans rfl rfl
theorem vb_one (x : UInt8) : oneC (vb x) = true := Eq.trans rfl rfl
section
variable {ty t2 src dst : TypeId} {d : Option Tmp} {pos : String} {e : Array Edge} {q : Option (Nat × Bool)} {x y : Operand} {tt : TypeId} {k : IntKind} {z b z2 b2 : Nat} {zs zs2 : List Value}
theorem bw_shl_l {a : UInt32} (n : Nat) (hx : ρ x = vw a) (hy : ρ y = .int k (OfNat.ofNat n)) : opBin P Γ ρ ⟨d, .binOp .shl tt x y t2, ty, pos, e, q⟩ s tt .shl (vw a) (.int k (no_index (OfNat.ofNat n))) = some (vw (shl32 a n), s) := bw_shl (n := n) hx hy
theorem bw_shr_l {a : UInt32} (n : Nat) (hx : ρ x = vw a) (hy : ρ y = .int k (OfNat.ofNat n)) : opBin P Γ ρ ⟨d, .binOp .shr tt x y t2, ty, pos, e, q⟩ s tt .shr (vw a) (.int k (no_index (OfNat.ofNat n))) = some (vw (shr32 a n), s) := bw_shr (n := n) hx hy
theorem conv_bw {c : UInt8} (hs : Γ.ti.at src = some ⟨.int .u8, z, b, zs⟩) (hd : Γ.ti.at dst = some ⟨.int .u32, z2, b2, zs2⟩) (ps : (P.underlying src).isSome = true) (pd : P.underlying dst = some (.int .u32)) (hx : ρ x = vb c) : opConvert P Γ ρ ⟨d, .convert src dst x, ty, pos, e, q⟩ s src dst (vb c) = some (vw c.toUInt32, s) := by
  unfold opConvert
  rw [hs, hd]
  show orPure P ρ _ s (convI .u32 (c.toNat : Int)) = _
  rw [oc_int ⟨_, hx⟩ ps pd, cw_b]
theorem conv_wb {c : UInt32} (hs : Γ.ti.at src = some ⟨.int .u32, z, b, zs⟩) (hd : Γ.ti.at dst = some ⟨.int .u8, z2, b2, zs2⟩) (ps : (P.underlying src).isSome = true) (pd : P.underlying dst = some (.int .u8)) (hx : ρ x = vw c) : opConvert P Γ ρ ⟨d, .convert src dst x, ty, pos, e, q⟩ s src dst (vw c) = some (vb c.toUInt8, s) := by
  unfold opConvert
  rw [hs, hd]
  show orPure P ρ _ s (convI .u8 (c.toNat : Int)) = _
  rw [oc_int ⟨_, hx⟩ ps pd, cb_w]
theorem conv_qb {c : UInt64} (hs : Γ.ti.at src = some ⟨.int .u64, z, b, zs⟩) (hd : Γ.ti.at dst = some ⟨.int .u8, z2, b2, zs2⟩) (ps : (P.underlying src).isSome = true) (pd : P.underlying dst = some (.int .u8)) (hx : ρ x = vq c) : opConvert P Γ ρ ⟨d, .convert src dst x, ty, pos, e, q⟩ s src dst (vq c) = some (vb c.toUInt8, s) := by
  unfold opConvert
  rw [hs, hd]
  show orPure P ρ _ s (convI .u8 (c.toNat : Int)) = _
  rw [oc_int ⟨_, hx⟩ ps pd, cb_q]
end
theorem resC_nil {fr : Fr} {s : CS} : resC Γ fr s [] = some ([], s) := Eq.trans rfl rfl
noncomputable def resAdd (v : Value) : Option (List Value × CS) → Option (List Value × CS)
  | some (vs, s) => some (v :: vs, s)
  | none => none
noncomputable def resThen (Γ : Env) (fr : Fr) (l : List ResultVar) : Option (Value × CS) → Option (List Value × CS)
  | some (v, s) => resAdd v (resC Γ fr s l)
  | none => none
theorem resAdd_some {v : Value} {vs : List Value} {s : CS} : resAdd v (some (vs, s)) = some (v :: vs, s) := Eq.trans rfl rfl
theorem resThen_some {fr : Fr} {l : List ResultVar} {v : Value} {s : CS} : resThen Γ fr l (some (v, s)) = resAdd v (resC Γ fr s l) := Eq.trans rfl rfl
theorem resC_cell {fr : Fr} {s : CS} {a : Tmp} {t : TypeId} {l : List ResultVar} {ad : Addr} (h : fr.get a = .pointer (some ad)) : resC Γ fr s (.cell a t :: l) = resThen Γ fr l (opLoad Γ s t (.pointer (some ad))) := by
  rw [resC, h]
  unfold opLoad
  cases Γ.ti.at t with
  | none => rfl
  | some i =>
    simp only
    cases s.loadVar i ad with
    | none => rfl
    | some r => rfl
theorem lit_cast (n : Nat) : ((no_index (OfNat.ofNat n) : Nat) : Int) = OfNat.ofNat n := Eq.trans rfl rfl
theorem bexit {i j : Nat} (h : i ≠ j) : Nat.beq i j = false := beq_no h
/-- a slice of bytes that may be read -/
structure BSl (g : Nat → Fam) (n f u off len cap : Nat) (bs : List UInt8) : Prop where
  lt : f < n
  tag : u % 1024 = 0 ∨ u % 1024 = 2
  fits : len ≤ cap
  size : bs.length = len
  row : ∃ cs, rowOf (g f).rows u = some cs ∧ ∀ i, i < len → cs[off + i]? = some (vb (bs.getD i 0))
end
end Go.Proofs.Ytfalnphlgfoflaa
namespace Go.Proofs.Ytfalnphlgfoflaa
open Go Go.RowKit
section
variable {P : Program} {Γ : Env} {call : CallC} {ops l : List Oper} {o o' : Oper} {fr fr' : Fr} {s t : CS}
noncomputable def thenL (n0 : Nat) (s : CS) (r : Option (Fr × CS)) (k : Fr → CS → Option (Fr × CS)) : Option (Fr × CS) := match r with
  | some (fr, t) => bif (t.wr.isEmpty && t.rd.all fun f => Nat.blt f n0) && Nat.ble n0 s.n then k fr (s.outer t) else none
  | none => none
noncomputable def lastL (s : CS) (r : Option (Fr × CS)) : Option (Fr × CS) := match r with
  | some (fr, t) => some (fr, s.outer t)
  | none => none
noncomputable def quietL (P : Program) (Γ : Env) (call : CallC) (ops : List Oper) (n0 : Nat) : List Oper → Fr → CS → Option (Fr × CS)
  | [], _, _ => none
  | [o], fr, s => lastL s (stepC P Γ call ops o fr s.inner)
  | o :: o' :: l, fr, s => thenL n0 s (stepC P Γ call ops o fr s.inner) (quietL P Γ call ops n0 (o' :: l))
theorem quietL_one {n0 : Nat} : quietL P Γ call ops n0 [o] fr s = lastL s (stepC P Γ call ops o fr s.inner) := Eq.trans rfl rfl
theorem quietL_cons {n0 : Nat} : quietL P Γ call ops n0 (o :: o' :: l) fr s = thenL n0 s (stepC P Γ call ops o fr s.inner) (quietL P Γ call ops n0 (o' :: l)) := Eq.trans rfl rfl
def QLog (n0 : Nat) (x : Lg) : Prop := x.wr = [] ∧ (∀ f, f ∈ x.rd → f < n0) ∧ n0 ≤ x.lo
theorem draw_last {n0 : Nat} : ∀ {l : List Oper} {fr fr' : Fr} {s s' : CS}, quietL P Γ call ops n0 l fr s = some (fr', s') → ∃ logs y, drawC P Γ call ops l fr s = some (logs ++ [y], fr', s') ∧ logs.length + 1 = l.length ∧ ∀ x, x ∈ logs → QLog n0 x
  | [], fr, fr', s, s', h => by simp [quietL] at h
  | [o], fr, fr', s, s', h => by
    rw [quietL_one] at h
    unfold lastL at h
    split at h
    · rename_i fr1 t h1
      simp only [Option.some.injEq, Prod.mk.injEq] at h
      obtain ⟨rfl, rfl⟩ := h
      refine ⟨[], ⟨t.rd, t.wr, s.n, t.n⟩, ?_, rfl, fun x hx => by simp at hx⟩
      rw [drawC_cons, h1]
      rfl
    · simp at h
  | o :: o' :: l, fr, fr', s, s', h => by
    rw [quietL_cons] at h
    unfold thenL at h
    split at h
    · rename_i fr1 t h1
      cases hq : (t.wr.isEmpty && t.rd.all fun f => Nat.blt f n0) && Nat.ble n0 s.n with
      | false => rw [hq] at h; simp at h
      | true =>
        rw [hq] at h
        simp only [cond_true] at h
        obtain ⟨logs, y, h2, h3, h4⟩ := draw_last h
        refine ⟨⟨t.rd, t.wr, s.n, t.n⟩ :: logs, y, ?_, ?_, ?_⟩
        · rw [drawC_cons, h1]
          unfold thenD
          simp only
          rw [h2]
          rfl
        · simp only [List.length_cons] at h3 ⊢; omega
        · intro x hx
          rcases List.mem_cons.1 hx with rfl | hx
          · simp only [Bool.and_eq_true, List.isEmpty_iff, List.all_eq_true] at hq
            exact ⟨hq.1.1, fun f hf => blt_iff.1 (hq.1.2 f hf), ble_iff.1 hq.2⟩
          · exact h4 x hx
    · simp at h
theorem clash_quiet {n0 : Nat} {x y : Lg} (hx : QLog n0 x) (hy : QLog n0 y) : clash x y = false := by
  obtain ⟨rx, wx, lx, hx'⟩ := x
  obtain ⟨ry, wy, ly, hy'⟩ := y
  obtain ⟨rfl, x2, x3⟩ := hx
  obtain ⟨rfl, y2, y3⟩ := hy
  refine clash_gen (fun f hf => by simp at hf) (fun f _ => by simp) (fun f hf => .inl ?_) (fun f hf => by simp at hf)
  have := y2 f hf
  exact Nat.lt_of_lt_of_le this x3
theorem calmOne_quiet {n0 m : Nat} {y : Lg} (hy : QLog n0 y) : ∀ {done : List Lg} {i : Nat}, (∀ x, x ∈ done → QLog n0 x) → calmOne clash m y done i = true
  | [], _, _ => rfl
  | x :: l, i, h => by
    rw [calmOne_ok (clash_quiet (h x (by simp)) hy)]
    exact calmOne_quiet hy fun z hz => h z (by simp [hz])
theorem calmOne_full {k : Nat} {y : Lg} : ∀ {done : List Lg} {i : Nat}, done.length + i ≤ k → calmOne clash (2 ^ k - 1) y done i = true
  | [], _, _ => rfl
  | x :: l, i, h => by
    rw [List.length_cons] at h
    rw [calmOne_set (by rw [Nat.testBit_two_pow_sub_one]; exact decide_eq_true (by omega))]
    exact calmOne_full (by omega)
theorem calmAll_last {n0 : Nat} {y : Lg} {ms : List Nat} : ∀ {logs done : List Lg}, (∀ x, x ∈ done → QLog n0 x) → (∀ x, x ∈ logs → QLog n0 x) → nth 0 ms (done.length + logs.length) = 2 ^ (done.length + logs.length) - 1 → calmAll clash done (logs ++ [y]) ms = true
  | [], done, hd, _, hm => by
    rw [List.nil_append, calmAll_cons]
    simp only [List.length_nil, Nat.add_zero] at hm
    rw [hm, calmOne_full (by omega), calmAll_nil]; rfl
  | x :: l, done, hd, hl, hm => by
    rw [List.cons_append, calmAll_cons, calmOne_quiet (hl x (by simp)) hd]
    simp only [Bool.true_and]
    refine calmAll_last (n0 := n0) ?_ (fun z hz => hl z (by simp [hz])) ?_
    · intro z hz
      rcases List.mem_append.1 hz with hz | hz
      · exact hd z hz
      · simp at hz; subst hz; exact hl _ (by simp)
    · rw [List.length_append, List.length_singleton]
      rw [List.length_cons] at hm
      rw [show done.length + 1 + l.length = done.length + (l.length + 1) by omega]
      exact hm
/-- the last operation comes behind all others, in every order -/
noncomputable def fullLast (ops : List Oper) : Bool := Nat.beq (nth 0 (masks ops []) (ops.length - 1)) (2 ^ (ops.length - 1) - 1)
theorem W.last {id : Nat} {ops : Array Oper} {Q : Exit → Fr → CS → Prop} (hf : fullLast ops.toList = true) (h : quietL P Γ (callR P Γ) ops.toList s.n ops.toList fr s = some (fr', t)) (hq : Q .normal fr' t) : W P Γ (.region id ops true) fr s Q := by
  obtain ⟨logs, y, h1, h2, h3⟩ := draw_last h
  refine W.draw_ex rfl h1 (calmAll_last (n0 := s.n) (fun x hx => by simp at hx) h3 ?_) hq
  have hk : ops.toList.length - 1 = logs.length := by omega
  have := Nat.eq_of_beq_eq_true hf
  rw [hk] at this
  simpa using this
variable {n lim n' f : Nat} {rd wr rd' wr' : List Nat} {ob ob' : Sto} {k : Fr → CS → Option (Fr × CS)}
theorem thenL_same {n0 : Nat} (h : n0 ≤ n) : thenL n0 ⟨n, ob, lim, rd, wr⟩ (some (fr, ⟨n', ob', n, [], []⟩)) k = k fr ⟨n', ob', lim, rd, wr⟩ := by
  show (bif true && Nat.ble n0 n then _ else _) = _
  rw [ble_ok h]; rfl
theorem thenL_rd {n0 : Nat} (hf : f < n0) (h : n0 ≤ n) : thenL n0 ⟨n, ob, lim, rd, wr⟩ (some (fr, ⟨n', ob', n, [f], []⟩)) k = k fr ⟨n', ob', lim, ins lim rd f, wr⟩ := by
  show (bif (true && [f].all fun f => Nat.blt f n0) && Nat.ble n0 n then _ else _) = _
  rw [ble_ok h, List.all_cons, blt_ok hf]; rfl
theorem lastL_some : lastL ⟨n, ob, lim, rd, wr⟩ (some (fr, ⟨n', ob', n, rd', wr'⟩)) = some (fr, ⟨n', ob', lim, insAll lim rd rd', insAll lim wr wr'⟩) := Eq.trans rfl rfl
variable {g : Nat → Fam}
/-- one cell is read, in a region that draws -/
theorem ld_q {ty : TypeId} {d : TypeDesc} {z b f u off : Nat} {zs cs : List Value} {v : Value} (h : Γ.ti.at ty = some ⟨d, z, b, zs⟩) (hd : aggT d = false) (hr : rowOf (g f).rows u = some cs) (hv : cs[off]? = some v) (hf : f < n) : opLoad Γ (St n g n [] []) ty (.pointer (some (mkA f u off))) = some (v, St n g n [f] []) := by
  rw [ld_one h hd hr hv, ins_lt hf]
theorem st_q {ty : TypeId} {d : TypeDesc} {b f u off : Nat} {zs cs : List Value} {v : Value} {es : Option (List (Value × Value))} (h : Γ.ti.at ty = some ⟨d, 1, b, zs⟩) (hg : g f = ⟨false, [(u, cs)], es⟩) (ho : off < cs.length) (hv : oneC v = true) (hf : f < n) : opStore Γ (St n g n [] []) ty [v] (.pointer (some (mkA f u off))) = some (undef, St n (fupd g f ⟨false, [(u, cs.set off v)], none⟩) n [] [f]) := by
  rw [st_one h hg ho hv, ins_lt hf]
/-- a piece of an array behind a pointer -/
theorem slice_arr1 {ty e : TypeId} {z2 b2 N : Nat} {zs2 : List Value} {j : TI} {f u off l h m : Nat} {lo hi : Option Value} (ha : Γ.ti.at ty = some ⟨.array N e, z2, b2, zs2⟩) (he : Γ.ti.at e = some j) (hN : N ≤ 1000000000) (hb : boundsC N N lo hi none = some (l, h, m)) (hu : u % 1024 = 0) :
    opSlice Γ s ty (.pointer (some (mkA f u off))) lo hi none = some (.slice (some (mkA f u (off + l * j.size))) (h - l) (m - l), s) := by
  unfold opSlice
  rw [ha]
  simp only [cutArr, he, ble_ok hN, sel_true, hb, cutC, ver_mk, plus_mk, beq_ok hu, Bool.true_or, cond_true]
theorem s2a_eq {ty e : TypeId} {z2 b2 N len cap : Nat} {zs2 : List Value} {a : Option Addr} (ha : Γ.ti.at ty = some ⟨.array N e, z2, b2, zs2⟩) (h0 : 0 < N) (hN : N ≤ len) : opS2A Γ s ty (.slice a len cap) = some (.pointer a, s) := by
  unfold opS2A
  rw [ha]
  simp only [ble_ok hN, blt_ok h0, Bool.and_true, cond_true]
theorem build_arr4 {ρ : Operand → Value} {ty e : TypeId} {b2 b3 : Nat} {z0 z1 z2 z3 : Value} {z4 : List Value} {d : TypeDesc} {x0 x1 x2 x3 : Operand} (ha : Γ.ti.at ty = some ⟨.array 4 e, 4, b2, [z0, z1, z2, z3]⟩) (he : Γ.ti.at e = some ⟨d, 1, b3, z4⟩) (h0 : (ρ x0).cells = #[ρ x0]) (h1 : (ρ x1).cells = #[ρ x1]) (h2 : (ρ x2).cells = #[ρ x2]) (h3 : (ρ x3).cells = #[ρ x3]) :
    opBuild Γ s ρ ty [(0, x0), (1, x1), (2, x2), (3, x3)] = some (.agg #[ρ x0, ρ x1, ρ x2, ρ x3], s) := by
  unfold opBuild
  rw [ha]
  simp only [he, partsOf, placeA, h0, h1, h2, h3]
  rfl
/-- an array or a struct is read, in a region that draws -/
theorem ld_partq {ty : TypeId} {d : TypeDesc} {z b f u off : Nat} {zs cs : List Value} (h : Γ.ti.at ty = some ⟨d, z, b, zs⟩) (hd : aggT d = true) (hr : rowOf (g f).rows u = some cs) (hv : off + z ≤ cs.length) (hf : f < n) : opLoad Γ (St n g n [] []) ty (.pointer (some (mkA f u off))) = some (.agg ((cs.drop off).take z).toArray, St n g n [f] []) := by
  rw [ld_part h hd hr hv, ins_lt hf]
theorem st_allq {ty : TypeId} {d : TypeDesc} {z b f u : Nat} {zs cs vs : List Value} {es : Option (List (Value × Value))} (h : Γ.ti.at ty = some ⟨d, z, b, zs⟩) (hg : g f = ⟨false, [(u, cs)], es⟩) (hz : vs.length = z) (ho : cs.length = z) (hv : vs.all oneC = true) (hf : f < n) : opStore Γ (St n g n [] []) ty vs (.pointer (some (mkA f u 0))) = some (undef, St n (fupd g f ⟨false, [(u, vs)], none⟩) n [] [f]) := by
  rw [st_all h hg hz ho hv, ins_lt hf]
theorem wvs_drop (l : List UInt32) (k : Nat) : (wvs l).drop k = wvs (l.drop k) := by simp [wvs, List.map_drop]
theorem wvs_take (l : List UInt32) (k : Nat) : (wvs l).take k = wvs (l.take k) := by simp [wvs, List.map_take]
end
end Go.Proofs.Ytfalnphlgfoflaa
namespace Go.Proofs.Ytfalnphlgfoflaa
open Go Go.RowKit
theorem Wseq {P : Program} {Γ : Env} {a b : Code} {fr : Fr} {s : CS} {Q : Exit → Fr → CS → Prop} (h : W P Γ a fr s (onN (fun fr s => W P Γ b fr s Q) Q)) : W P Γ (.seq a b) fr s Q := W.seq h
section
variable {P : Program} {G L : List Nat} {ax : Axs}
open Classical in
/-- a function without parameters whose value is known where a global holds these cells -/
noncomputable def axTab (gk : Nat) (cs : List Value) (v : Value) : List Value → CS → Option (Value × CS) := fun args s => match args with
  | [] => if rowOf (objAt s.obj gk).rows (gk * 1024) = some cs then some (v, { s with rd := ins s.lim s.rd gk }) else none
  | _ :: _ => none
theorem axTab_eq {gk : Nat} {cs : List Value} {v : Value} {s : CS} (h : rowOf (objAt s.obj gk).rows (gk * 1024) = some cs) : axTab gk cs v [] s = some (v, { s with rd := ins s.lim s.rd gk }) := by
  unfold axTab
  simp only
  rw [if_pos h]
theorem ax_tab (hL : funcsOk P G L = true) {f : Nat} {fn : Func} {body : Code} (hfn : (envAx P L ax).fn.at f = some fn) (hb : fn.body = some body) {v : Value} (hv : plainV 3 v = true) {gk : Nat} {cs : List Value} (hcs : cs.all (plainV 3) = true) (hgk : has G gk = true)
    (hc : ∀ w, GlobsAt w [(gk, cs)] → (∀ g, has G g = true → g < w.heap.size) → Calls P f #[] w fun e w' => e = .returned v ∧ Below w.heap.size w w') : AxOk P G f (axTab gk cs v) := by
  refine ⟨?_, ?_⟩
  · intro args s v' s' h _
    cases args with
    | cons a l => simp [axTab] at h
    | nil =>
      unfold axTab at h
      simp only at h
      split at h
      · simp only [Option.some.injEq, Prod.mk.injEq] at h
        rw [← h.2]
        exact ⟨Nat.le_refl _, rfl, fun f hf => ins_mem hf, fun f hf => hf, fun _ _ _ _ => rfl, fun _ _ => rfl, fun h => h, fun h => h, fun h => h⟩
      · simp at h
  · intro args args' s v' s' w σ V h hl hr hV hF hI hG
    cases args with
    | cons a l => simp [axTab] at h
    | nil =>
      unfold axTab at h
      simp only at h
      split at h
      · rename_i hrow
        simp only [Option.some.injEq, Prod.mk.injEq] at h
        obtain ⟨rfl, rfl⟩ := h
        obtain ⟨args'⟩ := args'
        cases args' with
        | cons a l => exact hl.elim
        | nil =>
          refine ⟨enter_ok hL hfn hb _ _, ?_⟩
          have hVg : V gk := by
            rcases @ins_self s.lim s.rd gk with hk | hk
            · exact hV gk (.inl hk)
            · exact hV gk (.inr (.inr hk))
          have hlt : ∀ g, has G g = true → g < w.heap.size := fun g hg => by
            obtain ⟨z, hz⟩ := hG g hg
            exact hr.lt _ _ _ _ _ hz
          have hga : GlobsAt w [(gk, cs)] := by
            intro p hp
            simp only [List.mem_singleton] at hp
            subst hp
            refine ⟨hlt gk hgk, fun j u hu => ?_⟩
            obtain ⟨z, hz⟩ := hG gk hgk
            obtain ⟨_, _, _, r4⟩ := (hr.fam gk hVg).rows _ (rowOf_mem hrow) _ _ _ hz
            obtain ⟨u', k1, k2⟩ := r4 j u hu
            have hp : plainV 3 u = true := List.all_eq_true.1 hcs u (List.mem_of_getElem? hu)
            rw [plain_eq 3 hp k2] at k1
            rw [Nat.zero_add] at k1
            exact ⟨k1, hp⟩
          refine (hc w hga hlt).mono ?_
          rintro e w' ⟨rfl, b⟩
          have hr' := hr.below b
          exact ⟨σ, _, rfl, plain_refl 3 hv, ⟨hr'.inj, hr'.lt, hr'.fam, hr'.none, hr'.vers⟩, ⟨fun _ _ _ h => h, fun _ _ h k => absurd h k, fun _ _ _ _ _ h k => by rw [h] at k; simp at k, b.size, fun k hk _ => b.block k hk, b.os, b.tape, b.output⟩⟩
      · simp at h
/-- the start of a law: the globals that are known, segments of the arguments' blocks -/
structure Seg where
  b : Nat
  o : Nat
  cs : List Value
/-- the families of the start: number of the block; version: the global's, or N and the segment's place -/
def segRows (N : Nat) (f : Nat) : Nat → List Seg → List (Nat × List Value)
  | _, [] => []
  | j, q :: l => if q.b = f then ((N + j) * 1024, q.cs) :: segRows N f (j + 1) l else segRows N f (j + 1) l
def famS (N : Nat) (K : List (Nat × List Value)) (A : List Seg) (f : Nat) : Fam := ⟨true, (famK K f).rows ++ segRows N f 0 A, none⟩
open Classical in
noncomputable def sgS (N : Nat) (G : List Nat) (K : List (Nat × List Value)) (A : List Seg) : Sg := fun f u =>
  if has G f = true ∧ u = f * 1024 then some (f, 0, (famK K f).rows.head?.elim 0 fun p => p.2.length)
  else if u % 1024 = 0 ∧ N ≤ u / 1024 then (match A[u / 1024 - N]? with
    | some q => if q.b = f then some (f, q.o, q.o + q.cs.length) else none
    | none => none) else none
/-- a segment lies in the world -/
def SegAt (σ : Sg) (w : World) (q : Seg) : Prop := q.b < w.heap.size ∧ (∀ j, j < q.o + q.cs.length → (w.cell? ⟨q.b, j, none⟩).isSome = true) ∧ ∀ (j : Nat) (u : Value), q.cs[j]? = some u → ∃ u', w.cell? ⟨q.b, q.o + j, none⟩ = some u' ∧ VR σ u u'
theorem segRows_mem {N f : Nat} {p : Nat × List Value} : ∀ {A : List Seg} {j : Nat}, p ∈ segRows N f j A → ∃ i q, A[i]? = some q ∧ q.b = f ∧ p = ((N + (j + i)) * 1024, q.cs)
  | [], j, h => by simp [segRows] at h
  | q :: l, j, h => by
    unfold segRows at h
    split at h
    · rename_i hq
      rcases List.mem_cons.1 h with rfl | h
      · exact ⟨0, q, rfl, hq, by rw [Nat.add_zero]⟩
      · obtain ⟨i, q', h1, h2, h3⟩ := segRows_mem h
        exact ⟨i + 1, q', by simpa using h1, h2, by rw [h3]; congr 2; omega⟩
    · obtain ⟨i, q', h1, h2, h3⟩ := segRows_mem h
      exact ⟨i + 1, q', by simpa using h1, h2, by rw [h3]; congr 2; omega⟩
theorem start_rel {N : Nat} {K : List (Nat × List Value)} {A : List Seg} {w : World} (hN : N = w.heap.size) (hK : ∀ p, p ∈ K → has G p.1 = true) (hw : GlobsAt w K) (hwG : ∀ g, has G g = true → g < w.heap.size) (hA : ∀ q, q ∈ A → SegAt (sgS N G K A) w q) :
    Rel (sgS N G K A) (fun _ => True) (St (N + A.length) (famS N K A) 0 [] []) w ∧ CInv (St (N + A.length) (famS N K A) 0 [] []) ∧ GlobOk G (sgS N G K A) ∧ (∀ f u p, sgS N G K A f u = some p → f < N + A.length ∧ u / 1024 < N + A.length ∧ (objAt (St (N + A.length) (famS N K A) 0 [] []).obj f).ro = true) := by
  have hσ : ∀ f u b o z, sgS N G K A f u = some (b, o, z) → b = f ∧ ((has G f = true ∧ u = f * 1024 ∧ o = 0 ∧ z = (famK K f).rows.head?.elim 0 fun p => p.2.length) ∨ (∃ i q, A[i]? = some q ∧ q.b = f ∧ u = (N + i) * 1024 ∧ o = q.o ∧ z = q.o + q.cs.length)) := by
    intro f u b o z h
    unfold sgS at h
    split at h
    · rename_i hc
      simp only [Option.some.injEq, Prod.mk.injEq] at h
      exact ⟨h.1.symm, .inl ⟨hc.1, hc.2, h.2.1.symm, h.2.2.symm⟩⟩
    · split at h
      · rename_i hc
        split at h
        · rename_i q hq
          split at h
          · rename_i hb
            simp only [Option.some.injEq, Prod.mk.injEq] at h
            refine ⟨h.1.symm, .inr ⟨_, q, hq, hb, by omega, h.2.1.symm, h.2.2.symm⟩⟩
          · simp at h
        · simp at h
      · simp at h
  have hlt : ∀ f u b o z, sgS N G K A f u = some (b, o, z) → b < w.heap.size ∧ f < N + A.length ∧ u / 1024 < N + A.length := by
    intro f u b o z h
    obtain ⟨rfl, ⟨h1, h2, _⟩ | ⟨i, q, h1, h2, h3, _⟩⟩ := hσ _ _ _ _ _ h
    · have := hwG _ h1; omega
    · have hm := List.mem_of_getElem? h1
      have hi : i < A.length := (List.getElem?_eq_some_iff.1 h1).1
      have := (hA q hm).1
      omega
  have hrows : ∀ f p, p ∈ (famS N K A f).rows → ((p.1 = f * 1024 ∧ (f, p.2) ∈ K ∧ (famK K f).rows = [p]) ∨ ∃ i q, A[i]? = some q ∧ q.b = f ∧ p = ((N + i) * 1024, q.cs)) := by
    intro f p hp
    rcases List.mem_append.1 hp with hp | hp
    · exact .inl (famK_rows hp)
    · obtain ⟨i, q, h1, h2, h3⟩ := segRows_mem hp
      exact .inr ⟨i, q, h1, h2, by rw [h3, Nat.zero_add]⟩
  have hnone : ∀ f, N + A.length ≤ f → famS N K A f = famNone := by
    intro f hf
    have : (famS N K A f).rows = [] := by
      rw [List.eq_nil_iff_forall_not_mem]
      intro p hp
      rcases hrows f p hp with ⟨_, h2, _⟩ | ⟨i, q, h1, h2, _⟩
      · have := hwG _ (hK _ h2); simp only at this; omega
      · have := (hA q (List.mem_of_getElem? h1)).1; omega
    unfold famS at this ⊢
    simp only at this
    rw [this]; rfl
  have hvers : ∀ f p, p ∈ (famS N K A f).rows → p.1 / 1024 < N + A.length := by
    intro f p hp
    rcases hrows f p hp with ⟨h1, h2, _⟩ | ⟨i, q, h1, h2, rfl⟩
    · have := hwG _ (hK _ h2); simp only at this; omega
    · have hi : i < A.length := (List.getElem?_eq_some_iff.1 h1).1
      simp only; omega
  refine ⟨⟨?_, fun f u b o z h => (hlt f u b o z h).1, ?_, fun f hf => hnone f hf, fun f p hp => hvers f p hp⟩, ⟨fun f hf => hnone f hf, fun f p hp => hvers f p hp, Nat.zero_le _⟩, ?_, fun f u p h => ⟨(hlt f u _ _ _ h).2.1, (hlt f u _ _ _ h).2.2, rfl⟩⟩
  · intro f u b o z f' u' o' z' h1 h2
    have a1 := (hσ _ _ _ _ _ h1).1
    have a2 := (hσ _ _ _ _ _ h2).1
    omega
  · intro f _
    refine ⟨fun p hp b o z h => ?_, fun hro => by simp [objAt, famS] at hro, fun es he => by simp [objAt, famS] at he⟩
    obtain ⟨rfl, hs⟩ := hσ _ _ _ _ _ h
    rcases hrows b p hp with ⟨h1, h2, h3⟩ | ⟨i, q, h1, h2, rfl⟩
    · rcases hs with ⟨g1, g2, rfl, rfl⟩ | ⟨i, q, g1, g2, g3, _⟩
      · rw [h3]
        simp only [List.head?_cons, Option.elim]
        refine ⟨by omega, fun j hj => ?_, fun hro => by simp [objAt, famS] at hro, fun j u hu => ?_⟩
        · obtain ⟨k1, _⟩ := (hw _ h2).2 j _ (List.getElem?_eq_getElem hj)
          rw [k1]; rfl
        · obtain ⟨k1, k2⟩ := (hw _ h2).2 j u hu
          rw [Nat.zero_add]
          exact ⟨u, k1, plain_refl 3 k2⟩
      · have := hwG _ (hK _ h2); simp only at this; omega
    · rcases hs with ⟨g1, g2, _, _⟩ | ⟨i', q', g1, g2, g3, rfl, rfl⟩
      · simp only at g2
        have := hwG _ g1
        omega
      · simp only at g3
        have : i' = i := by omega
        subst this
        rw [h1] at g1
        cases g1
        obtain ⟨a1, a2, a3⟩ := hA q (List.mem_of_getElem? h1)
        subst h2
        exact ⟨Nat.le_refl _, a2, fun hro => by simp [objAt, famS] at hro, a3⟩
  · intro g hg
    exact ⟨_, if_pos ⟨hg, rfl⟩⟩
end
end Go.Proofs.Ytfalnphlgfoflaa
namespace Go.Proofs.Ytfalnphlgfoflaa
open Go Go.RowKit
/-- a call that gives v, turns nothing that was there, and of old rows reads at most those of R -/
def Ret (P : Program) (Γ : Env) (f : FuncId) (args : List Value) (n : Nat) (g : Nat → Fam) (lim : Nat) (rd wr : List Nat) (R : Nat → Prop) (v : Value) : Prop :=
  ∃ n' g' rd', callR P Γ f args (St n g lim rd wr) = some (v, St n' g' lim rd' wr) ∧ n ≤ n' ∧ (∀ i, i < n → g' i = g i) ∧ (∀ x, x ∈ rd' → x ∈ rd ∨ (R x ∧ x < lim))
section
variable {P : Program} {Γ : Env} {ρ : Operand → Value} {s : CS} {fr : Fr} {n lim n' f n0 : Nat} {g : Nat → Fam} {rd wr rd' : List Nat} {ob ob' : Sto}
theorem Ret.of {f : FuncId} {fn : Func} {body : Code} {args : List Value} {R : Nat → Prop} {v : Value} (k : Nat) (hax : Γ.ax f = none) (hf : Γ.fn.at f = some fn) (hb : fn.body = some body) (hn : fn.ntmps = k) (hl : args.length ≤ k)
    (h : W P Γ body (Fr.ofArgs args 0 (Fr.of k fun _ => undef)) (St n g lim rd wr) fun e fr' s1 => (e = .normal ∨ e = .ret) ∧ ∃ n' g' rd', resC Γ fr' s1 fn.results.toList = some ([v], St n' g' lim rd' wr) ∧ n ≤ n' ∧ (∀ i, i < n → g' i = g i) ∧ (∀ x, x ∈ rd' → x ∈ rd ∨ (R x ∧ x < lim))) : Ret P Γ f args n g lim rd wr R v := by
  obtain ⟨e, fr', s1, h1, he, n', g', rd', hr, h2⟩ := h
  exact ⟨n', g', rd', callR_go k hax hf hb hn hl ⟨e, fr', s1, h1, he, _, hr, rfl⟩, h2⟩
theorem thenQ_gen {α : Type} {k : Fr → CS → Option α} (h : ∀ x, x ∈ rd' → x < n0) : thenQ n0 ⟨n, ob, lim, rd, wr⟩ (some (fr, ⟨n', ob', n, rd', []⟩)) k = k fr ⟨n', ob', lim, insAll lim rd rd', wr⟩ := by
  show (bif true && (rd'.all fun f => Nat.blt f n0) then _ else _) = _
  rw [List.all_eq_true.2 fun x hx => blt_ok (h x hx)]
  rfl
theorem thenL_gen {k : Fr → CS → Option (Fr × CS)} (h : ∀ x, x ∈ rd' → x < n0) (hn : n0 ≤ n) : thenL n0 ⟨n, ob, lim, rd, wr⟩ (some (fr, ⟨n', ob', n, rd', []⟩)) k = k fr ⟨n', ob', lim, insAll lim rd rd', wr⟩ := by
  show (bif (true && rd'.all fun f => Nat.blt f n0) && Nat.ble n0 n then _ else _) = _
  rw [List.all_eq_true.2 fun x hx => blt_ok (h x hx), ble_ok hn]
  rfl
theorem insAll_mem {l : List Nat} : ∀ {rd rd' : List Nat}, l = rd' → ∀ x, x ∈ insAll lim rd l → x ∈ rd ∨ (x ∈ rd' ∧ x < lim) := by
  induction l with
  | nil => rintro rd rd' rfl x hx; exact .inl hx
  | cons y l ih =>
    rintro rd rd' rfl x hx
    rcases ih rfl x hx with h | h
    · rcases mem_ins h with h | h
      · exact .inl h
      · exact .inr ⟨by simp [h.1], h.2⟩
    · exact .inr ⟨by simp [h.1], h.2⟩
/-- several cells are written -/
theorem st_part {ty : TypeId} {d : TypeDesc} {z b f u off : Nat} {zs cs vs : List Value} {es : Option (List (Value × Value))} (h : Γ.ti.at ty = some ⟨d, z, b, zs⟩) (hg : g f = ⟨false, [(u, cs)], es⟩) (hz : vs.length = z) (ho : off + z ≤ cs.length) (hv : vs.all oneC = true) : opStore Γ (St n g lim rd wr) ty vs (.pointer (some (mkA f u off))) = some (undef, St n (fupd g f ⟨false, [(u, splice cs off vs)], none⟩) lim rd (ins lim wr f)) := by
  unfold opStore
  rw [h]
  simp only
  rw [beq_ok hz, cond_true, write_st hg (by omega) hv]
  rfl
theorem op_copy {o : Oper} {x y : Operand} {t tx : TypeId} : opBuiltin P Γ ρ o s .copy [x, y] [t, tx] = opCopy Γ s t (ρ y) (ρ x) := Eq.trans rfl rfl
/-- a string is copied into a row -/
theorem copy_str {t : TypeId} {j : TI} {f u off len cap : Nat} {cs : List Value} {es : Option (List (Value × Value))} {b : ByteArray} (he : elemOf? Γ t = some j) (hj : j.size = 1) (hg : g f = ⟨false, [(u, cs)], es⟩) (h0 : min b.size len ≠ 0) (ho : off + min b.size len ≤ cs.length) :
    opCopy Γ (St n g lim rd wr) t (.string b) (.slice (some (mkA f u off)) len cap) = some (.int .i64 ((min b.size len : Nat) : Int), St n (fupd g f ⟨false, [(u, splice cs off (bvs (b.data.toList.take (min b.size len))))], none⟩) lim rd (ins lim wr f)) := by
  unfold opCopy
  simp only [he, lenC, hj]
  rw [first_str (Nat.min_le_left _ _)]
  have hb : byteVs (b.extract 0 (min b.size len)) = bvs (b.data.toList.take (min b.size len)) := by
    rw [byteVs_eq]; simp [ByteArray.data_extract]
  rw [hb]
  unfold copyC
  have hl : (b.data.toList.take (min b.size len)).length = min b.size len := by
    rw [List.length_take]
    have : b.data.toList.length = b.size := by simp
    omega
  simp only [Nat.mul_one, beq_no h0, cond_false]
  rw [write_st hg (by rw [bvs_len, hl]; exact ho) (bvs_one _)]
/-- a slice that a call has made, by append or written out -/
def OwnX (m : Nat) (g : Nat → Fam) (n e : Nat) (ao : Option Addr) (len : Nat) (cells : List Value) : Prop :=
  OwnR m g n e ao len cells ∨ (cells.length = len * e ∧ ∃ f u rest, ao = some (mkA f u 0) ∧ g f = ⟨false, (u, cells) :: rest, none⟩ ∧ m ≤ f ∧ f < n ∧ u / 1024 < n ∧ u % 1024 = 0)
theorem OwnX.keep {m n' e len : Nat} {g' : Nat → Fam} {ao : Option Addr} {cells : List Value} (h : OwnX m g n e ao len cells) (hg : ∀ i, m ≤ i → i < n → g' i = g i) (hn : n ≤ n') : OwnX m g' n' e ao len cells := by
  rcases h with h | ⟨h1, f, u, rest, k1, k2, k3, k4, k5, k6⟩
  · exact .inl (h.keep hg hn)
  · exact .inr ⟨h1, f, u, rest, k1, by rw [hg f k3 k4]; exact k2, k3, by omega, by omega, k6⟩
theorem OwnX.first {m e len k : Nat} {ao : Option Addr} {cells : List Value} (h : OwnX m g n e ao len cells) (hl : lim ≤ m) (hk : k ≤ len) : CS.firstCells (St n g lim rd wr) e k (.slice ao len len) = some (cells.take (k * e), St n g lim rd wr) := by
  rcases h with h | ⟨h1, f, u, rest, rfl, k2, k3, k4, k5, k6⟩
  · exact h.first hl hk
  · have hkl : k * e ≤ len * e := Nat.mul_le_mul_right e hk
    rw [first_sl (cs := cells) (by rw [k2]; simp [rowOf, Nat.beq_refl]) (by omega) (by omega)]
    simp
theorem OwnX.append {m e len k bytes : Nat} {ao : Option Addr} {cells xs : List Value} {y : Value} {rd' : List Nat} (h : OwnX m g n e ao len cells) (hm : m ≤ n) (hl : lim ≤ m) (hlen : lenC y = some k) (hy : CS.firstCells (St n g lim rd wr) e k y = some (xs, St n g lim rd' wr)) (hx : xs.length = k * e) (ho : xs.all oneC = true) (he : 0 < e ∧ e < 1000)
    (hb : (len + k) * (bytes + 1) ≤ 1000000000) :
    ∃ ao' n' g', CS.append (St n g lim rd wr) e bytes ao len len y = some (.slice ao' (len + k) (len + k), St n' g' lim rd' wr) ∧ OwnX m g' n' e ao' (len + k) (cells ++ xs) ∧ n ≤ n' ∧ n' ≤ n + 1 ∧ ∀ i, i < m → g' i = g i := by
  rcases h with h | ⟨h1, f, u, rest, rfl, k2, k3, k4, k5, k6⟩
  · obtain ⟨ao', n', g', a1, a2, a3⟩ := h.append hm hl hlen hy hx ho he hb
    exact ⟨ao', n', g', a1, .inl a2, a3⟩
  · have c1 : (Nat.blt 1000000000 ((len + k) * (bytes + 1)) || Nat.beq e 0 || Nat.ble 1000 e || not (xs.all oneC)) = false := by
      rw [blt_no hb, beq_no (by omega), ble_no (by omega), ho]; rfl
    cases hk : Nat.beq k 0 with
    | true =>
      have := Nat.eq_of_beq_eq_true hk
      subst this
      have hx0 : xs = [] := by simpa using hx
      subst hx0
      refine ⟨_, n, g, ?_, .inr ⟨by simpa using h1, f, u, rest, rfl, by simpa using k2, k3, k4, k5, k6⟩, Nat.le_refl _, by omega, fun _ _ => rfl⟩
      unfold CS.append
      rw [hlen]; simp only [hy, c1, cond_false]
      rw [ble_ok (by omega)]; simp only [cond_true, hk]
      rfl
    | false =>
      have hk0 : k ≠ 0 := fun h => by rw [h] at hk; simp at hk
      have hfl : lim ≤ f := by omega
      have hold : (bif Nat.beq len 0 then some ([], St n g lim rd' wr) else CS.firstCells (St n g lim rd' wr) e len (.slice (some (mkA f u 0)) len len)) = some (cells, St n g lim rd' wr) := by
        cases hz : Nat.beq len 0 with
        | true =>
          have := Nat.eq_of_beq_eq_true hz
          subst this
          have : cells = [] := by simpa using h1
          rw [this]; rfl
        | false =>
          rw [cond_false, first_sl (cs := cells) (by rw [k2]; simp [rowOf, Nat.beq_refl]) (by omega) hfl]
          rw [List.drop_zero, List.take_of_length_le (by omega)]
      refine ⟨some (mkA n (n * 1024 + (e + 1)) 0), n + 1, fupd g n ⟨false, [(n * 1024 + (e + 1), cells ++ xs)], none⟩, ?_, .inl ⟨by rw [List.length_append, h1, hx, Nat.add_mul], .inr ⟨n, _, [], rfl, fupd_same _ _ _, hm, by omega, by omega, by omega⟩⟩, by omega, by omega, fun i hi => fupd_ne _ _ _ _ (by omega)⟩
      unfold CS.append
      rw [hlen]
      simp only [hy, c1, cond_false]
      rw [ble_no (by omega)]
      simp only [cond_false, hold, ver_mk]
      rw [beq_ok k6]
      simp only [cond_true, newRow_st, sliceC]
/-- one element, written out, is appended -/
theorem OwnX.push {m len bytes : Nat} {ao : Option Addr} {cells : List Value} {v : Value} (h : OwnX m g n 1 ao len cells) (hm : m ≤ n) (hl : lim ≤ m) (hv : oneC v = true) (hb : (len + 1) * (bytes + 1) ≤ 1000000000) :
    ∃ ao' n' g', CS.append (St (n + 1) (fupd g n ⟨false, [(n * 1024 + 0, [v])], none⟩) lim rd wr) 1 bytes ao len len (.slice (some (mkA n (n * 1024 + 0) 0)) 1 1) = some (.slice ao' (len + 1) (len + 1), St n' g' lim rd wr) ∧ OwnX m g' n' 1 ao' (len + 1) (cells ++ [v]) ∧ n + 1 ≤ n' ∧ n' ≤ n + 2 ∧ ∀ i, i < m → g' i = g i := by
  have h2 := h.keep (n' := n + 1) (g' := fupd g n ⟨false, [(n * 1024 + 0, [v])], none⟩) (fun i _ hi => fupd_ne _ _ _ _ (by omega)) (by omega)
  obtain ⟨ao', n', g', a1, a2, a3, a4, a5⟩ := h2.append (bytes := bytes) (rd := rd) (wr := wr) (rd' := rd) (xs := [v]) (k := 1) (y := .slice (some (mkA n (n * 1024 + 0) 0)) 1 1) (by omega) hl rfl
    (by rw [first_sl (cs := [v]) (by rw [fupd_same]; exact rowOf_one) (by simp) (by omega)]; rfl) rfl (by simp [hv]) (by omega) hb
  exact ⟨ao', n', g', a1, a2, a3, by omega, fun i hi => by rw [a5 i hi, fupd_ne _ _ _ _ (by omega)]⟩
section
variable {call : CallC} {d : Option Tmp} {ty : TypeId} {pos : String} {e : Array Edge} {q : Option (Nat × Bool)}
theorem cop_callv {t : Nat} {args : Array Operand} {tys : Array TypeId} : cop P Γ call ρ ⟨d, .call ⟨.value (.tmp t), args, tys⟩, ty, pos, e, q⟩ s = opCall call s (args.toList.map ρ) (ρ (.tmp t)) := Eq.trans rfl rfl
theorem opCall_func {f : FuncId} {first captured : Array Value} {args : List Value} : opCall call s args (.func (.func f) first captured) = call f (first.toList ++ args ++ captured.toList) s := Eq.trans rfl rfl
theorem cop_makeFunc {fn : Fn} {first captured : Array Operand} : cop P Γ call ρ ⟨d, .makeFunc fn first captured, ty, pos, e, q⟩ s = some (.func fn (first.map ρ) (captured.map ρ), s) := Eq.trans rfl rfl
end
theorem copy_zero {t : TypeId} {j : TI} {a : Option Addr} {len cap : Nat} {b : ByteArray} (he : elemOf? Γ t = some j) (hj : j.size = 1) (h0 : min b.size len = 0) : opCopy Γ s t (.string b) (.slice a len cap) = some (.int .i64 0, s) := by
  unfold opCopy
  simp only [he, lenC, hj]
  rw [first_str (Nat.min_le_left _ _)]
  unfold copyC
  simp only [h0]
  rfl
theorem W.last_ex {id : Nat} {ops : Array Oper} {Q : Exit → Fr → CS → Prop} (R : Fr → CS → Prop) (hf : fullLast ops.toList = true) (h : ∃ r : Fr × CS, quietL P Γ (callR P Γ) ops.toList s.n ops.toList fr s = some r ∧ R r.1 r.2) (hq : ∀ fr' s', R fr' s' → Q .normal fr' s') : W P Γ (.region id ops true) fr s Q := by
  obtain ⟨⟨fr', s'⟩, h1, h2⟩ := h
  exact W.last hf h1 (hq _ _ h2)
/-- a piece of code that is told by what it leaves -/
theorem W.cut {a : Code} {Q : Exit → Fr → CS → Prop} {k : Fr → CS → Prop} (R : Fr → CS → Prop) (h : W P Γ a fr s fun e fr s => e = .normal ∧ R fr s) (hk : ∀ fr s, R fr s → k fr s) : W P Γ a fr s (onN k Q) := by
  refine h.mono ?_
  rintro e fr s ⟨rfl, hR⟩
  exact hk _ _ hR
end
end Go.Proofs.Ytfalnphlgfoflaa
