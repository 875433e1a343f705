/- The plain machine by hand, second part: calls without fuel, and the rules in the manner of a weakest precondition. No program in sight. -/
import Derived.Test.YtcmfoipnoejmlaaDoorCm23
namespace Go.Proofs.YtcmfoipnoejmlaaDoor
open Go Go.RowKit
section
variable {P : Program} {Γ : Env}
open Classical in
/-- a call, with as much fuel as it takes -/
noncomputable def callR (P : Program) (Γ : Env) : CallC := fun f args s => if h : ∃ r : Value × CS, ∃ n, callC P Γ n f args s = some r then some h.choose else none
theorem callR_some {f : FuncId} {args : List Value} {s : CS} {r : Value × CS} (h : callR P Γ f args s = some r) : ∃ n, callC P Γ n f args s = some r := by
  unfold callR at h
  split at h
  · rename_i hx
    obtain ⟨n, hn⟩ := hx.choose_spec
    simp only [Option.some.injEq] at h
    exact ⟨n, by rw [← h]; exact hn⟩
  · simp at h
theorem callR_of {f : FuncId} {args : List Value} {s : CS} {r : Value × CS} {n : Nat} (h : callC P Γ n f args s = some r) : callR P Γ f args s = some r := by
  unfold callR
  have hx : ∃ r : Value × CS, ∃ n, callC P Γ n f args s = some r := ⟨r, n, h⟩
  rw [dif_pos hx]
  obtain ⟨m, hm⟩ := hx.choose_spec
  have h1 := callC_mono (P := P) (Γ := Γ) (Nat.le_max_left n m) f args s _ h
  have h2 := callC_mono (P := P) (Γ := Γ) (Nat.le_max_right n m) f args s _ hm
  rw [h1] at h2
  exact h2.symm
theorem cop_R {ρ : Operand → Value} {o : Oper} {s : CS} {r : Value × CS} (hc : cop P Γ (callR P Γ) ρ o s = some r) : ∃ n, cop P Γ (callC P Γ n) ρ o s = some r := by
  obtain ⟨dst, op, type, pos, after, guard⟩ := o
  unfold cop at hc ⊢
  cases op with
  | call c =>
    simp only at hc ⊢
    split at hc
    · rename_i f hf
      unfold opCall at hc ⊢
      split at hc
      · exact callR_some hc
      · simp at hc
    · exact ⟨0, hc⟩
    · simp at hc
  | makeMap t r => cases r <;> exact ⟨0, hc⟩
  | _ => exact ⟨0, hc⟩
theorem stepC_R {ops : List Oper} {o : Oper} {fr : Fr} {s : CS} {r : Fr × CS} (hc : stepC P Γ (callR P Γ) ops o fr s = some r) : ∃ n, stepC P Γ (callC P Γ n) ops o fr s = some r := by
  unfold stepC at hc ⊢
  cases hw : wantedC ops fr o with
  | false => rw [hw] at hc; exact ⟨0, hc⟩
  | true =>
    rw [hw] at hc
    simp only [cond_true] at hc ⊢
    split at hc
    · rename_i h1
      obtain ⟨n, hn⟩ := cop_R h1
      exact ⟨n, by rw [hn]; exact hc⟩
    · simp at hc
theorem runC_R {ops : List Oper} : ∀ {l : List Oper} {fr : Fr} {s : CS} {r : Fr × CS}, runC P Γ (callR P Γ) ops l fr s = some r → ∃ n, runC P Γ (callC P Γ n) ops l fr s = some r
  | [], _, _, _, hc => ⟨0, hc⟩
  | o :: l, fr, s, r, hc => by
    simp only [runC] at hc ⊢
    split at hc
    · rename_i h1
      obtain ⟨n, hn⟩ := stepC_R h1
      obtain ⟨m, hm⟩ := runC_R hc
      refine ⟨max n m, ?_⟩
      rw [stepC_le (callC_mono (Nat.le_max_left n m)) hn]
      exact runC_le (callC_mono (Nat.le_max_right n m)) hm
    · simp at hc
theorem drawC_R {ops : List Oper} : ∀ {l : List Oper} {fr : Fr} {s : CS} {r : List Lg × Fr × CS}, drawC P Γ (callR P Γ) ops l fr s = some r → ∃ n, drawC P Γ (callC P Γ n) ops l fr s = some r
  | [], _, _, _, hc => ⟨0, hc⟩
  | o :: l, fr, s, r, hc => by
    simp only [drawC] at hc ⊢
    split at hc
    · rename_i h1
      obtain ⟨n, hn⟩ := stepC_R h1
      split at hc
      · rename_i h2
        obtain ⟨m, hm⟩ := drawC_R h2
        refine ⟨max n m, ?_⟩
        rw [stepC_le (callC_mono (Nat.le_max_left n m)) hn]
        simp only
        rw [drawC_le (callC_mono (Nat.le_max_right n m)) hm]
        exact hc
      · simp at hc
    · simp at hc
/-- a piece of code runs to its end, and then Q -/
def W (P : Program) (Γ : Env) (c : Code) (fr : Fr) (s : CS) (Q : Exit → Fr → CS → Prop) : Prop := ∃ e fr' s', Ev P Γ c fr s e fr' s' ∧ Q e fr' s'
/-- behind a piece that ends as it should, k; else what was asked -/
def onN (k : Fr → CS → Prop) (Q : Exit → Fr → CS → Prop) (e : Exit) (fr : Fr) (s : CS) : Prop := match e with
  | .normal => k fr s
  | e => Q e fr s
/-- a block that bears a number -/
def onB (id : Nat) (Q : Exit → Fr → CS → Prop) (e : Exit) (fr : Fr) (s : CS) : Prop := match e with
  | .exit i => bif Nat.beq i id then Q .normal fr s else Q (.exit i) fr s
  | e => Q e fr s
theorem W.mono {c : Code} {fr : Fr} {s : CS} {Q R : Exit → Fr → CS → Prop} (h : W P Γ c fr s Q) (k : ∀ e fr s, Q e fr s → R e fr s) : W P Γ c fr s R := by
  obtain ⟨e, fr', s', h1, h2⟩ := h
  exact ⟨e, fr', s', h1, k _ _ _ h2⟩
theorem W.skip {fr : Fr} {s : CS} {Q : Exit → Fr → CS → Prop} (h : Q .normal fr s) : W P Γ .skip fr s Q := ⟨_, _, _, Ev.skip fr s, h⟩
theorem W.ret {fr : Fr} {s : CS} {Q : Exit → Fr → CS → Prop} (h : Q .ret fr s) : W P Γ .ret fr s Q := ⟨_, _, _, Ev.ret fr s, h⟩
theorem W.exit {id : Nat} {fr : Fr} {s : CS} {Q : Exit → Fr → CS → Prop} (h : Q (.exit id) fr s) : W P Γ (.exit id) fr s Q := ⟨_, _, _, Ev.exit id fr s, h⟩
theorem W.label {l : Nat} {fr : Fr} {s : CS} {Q : Exit → Fr → CS → Prop} (h : Q .normal fr s) : W P Γ (.label l) fr s Q := ⟨_, _, _, ⟨1, rfl⟩, h⟩
theorem W.seq {a b : Code} {fr : Fr} {s : CS} {Q : Exit → Fr → CS → Prop} (h : W P Γ a fr s (onN (fun fr s => W P Γ b fr s Q) Q)) : W P Γ (.seq a b) fr s Q := by
  obtain ⟨e, fr1, s1, h1, h2⟩ := h
  cases e with
  | normal =>
    obtain ⟨e2, fr2, s2, h3, h4⟩ := h2
    exact ⟨_, _, _, Ev.seq h1 h3, h4⟩
  | _ => exact ⟨_, _, _, Ev.seqOut h1 (by simp), h2⟩
theorem W.cond {c : Operand} {t f : Code} {fr : Fr} {s : CS} {Q : Exit → Fr → CS → Prop} {b : Bool} (hb : evalC fr c = .bool b) (h : W P Γ (bif b then t else f) fr s Q) : W P Γ (.cond c t f) fr s Q := by
  obtain ⟨e, fr1, s1, h1, h2⟩ := h
  exact ⟨_, _, _, Ev.cond hb h1, h2⟩
theorem W.block {id : Nat} {b : Code} {fr : Fr} {s : CS} {Q : Exit → Fr → CS → Prop} (h : W P Γ b fr s (onB id Q)) : W P Γ (.block id b) fr s Q := by
  obtain ⟨e, fr1, s1, h1, h2⟩ := h
  refine ⟨_, _, _, Ev.block h1, ?_⟩
  cases e with
  | exit i =>
    simp only [onB] at h2
    show Q (bif Nat.beq i id then .normal else .exit i) fr1 s1
    cases hq : Nat.beq i id with
    | true => rw [hq] at h2; exact h2
    | false => rw [hq] at h2; exact h2
  | _ => exact h2
theorem W.scope {b : Code} {fr : Fr} {s : CS} {Q : Exit → Fr → CS → Prop} (h : W P Γ b fr s Q) : W P Γ (.scope b) fr s Q := by
  obtain ⟨e, fr1, s1, h1, h2⟩ := h
  exact ⟨_, _, _, Ev.scope h1, h2⟩
theorem W.loop {b : Code} {Q : Exit → Fr → CS → Prop} (I : Nat → Fr → CS → Prop) (hb : ∀ n fr s, I n fr s → W P Γ b fr s (onN (fun fr s => ∃ m, m < n ∧ I m fr s) Q)) : ∀ n fr s, I n fr s → W P Γ (.loop b) fr s Q := by
  intro n
  induction n using Nat.strongRecOn with
  | _ n ih =>
    intro fr s hI
    obtain ⟨e, fr1, s1, h1, h2⟩ := hb n fr s hI
    cases e with
    | normal =>
      obtain ⟨m, hm, hI'⟩ := h2
      obtain ⟨e2, fr2, s2, h3, h4⟩ := ih m hm fr1 s1 hI'
      exact ⟨_, _, _, Ev.again h1 h3, h4⟩
    | _ => exact ⟨_, _, _, Ev.last h1 (by simp), h2⟩
theorem W.region {id : Nat} {ops : Array Oper} {fr fr' : Fr} {s s' : CS} {Q : Exit → Fr → CS → Prop} (h : runC P Γ (callR P Γ) ops.toList ops.toList fr s = some (fr', s')) (hq : Q .normal fr' s') : W P Γ (.region id ops false) fr s Q := by
  obtain ⟨n, hn⟩ := runC_R h
  refine ⟨_, _, _, ⟨n + 1, ?_⟩, hq⟩
  show (match runC P Γ (callC P Γ n) ops.toList ops.toList fr s with
            | some (fr, s) => some (Exit.normal, fr, s)
            | none => none) = _
  rw [hn]
theorem W.draw {id : Nat} {ops : Array Oper} {fr fr' : Fr} {s s' : CS} {logs : List Lg} {Q : Exit → Fr → CS → Prop} (h : drawC P Γ (callR P Γ) ops.toList ops.toList fr s = some (logs, fr', s')) (hc : calm s.n ops.toList logs = true) (hq : Q .normal fr' s') : W P Γ (.region id ops true) fr s Q := by
  obtain ⟨n, hn⟩ := drawC_R h
  refine ⟨_, _, _, ⟨n + 1, ?_⟩, hq⟩
  show (match drawC P Γ (callC P Γ n) ops.toList ops.toList fr s with
        | some (logs, fr, t) => bif calm s.n ops.toList logs then some (Exit.normal, fr, t) else none
        | none => none) = _
  rw [hn]
  simp only [hc, cond_true]
theorem callR_body {f : FuncId} {fn : Func} {body : Code} {args : List Value} {s s2 : CS} {v : Value} (hax : Γ.ax f = none) (hf : Γ.fn.at f = some fn) (hb : fn.body = some body) (hl : args.length ≤ fn.ntmps)
    (h : W P Γ body (Fr.ofArgs args 0 ⟨fn.ntmps, Tr.all undef 9⟩) s fun e fr' s1 => (e = .normal ∨ e = .ret) ∧ ∃ vs, resC Γ fr' s1 fn.results.toList = some (vs, s2) ∧ v = tupC vs) : callR P Γ f args s = some (v, s2) := by
  obtain ⟨e, fr1, s1, h1, he, vs, hr, rfl⟩ := h
  obtain ⟨n, hn⟩ := Runs.of hax hf hb hl he h1 hr
  exact callR_of hn
end
end Go.Proofs.YtcmfoipnoejmlaaDoor
