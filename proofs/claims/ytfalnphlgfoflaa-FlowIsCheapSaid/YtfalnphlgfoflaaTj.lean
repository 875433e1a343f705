/- Trees: the rules in the manner of a weakest precondition, and calls that turn nothing. No program in sight. -/
import Derived.Test.YtfalnphlgfoflaaTi
namespace Go.Proofs.Ytfalnphlgfoflaa
open Go Go.RowKit
set_option linter.unusedSimpArgs false
set_option linter.unusedVariables false
section
variable {GL : List (Nat × List Value)} {A A' A2 : Nat → Prop} {β β' β2 : Bx} {S S' S2 : TS} {s s' s2 : CS} {P : Program} {Γ : Env} {N : Nat} {h h' h2 : Nat → T} {Q R : Exit → (Nat → T) → TS → Prop}
def TW (P : Program) (Γ : Env) (GL : List (Nat × List Value)) (N : Nat) (c : Code) (h : Nat → T) (S : TS) (Q : Exit → (Nat → T) → TS → Prop) : Prop :=
  ∀ A β fr s, FrOk A β (objAt s.obj) N h fr → TRel GL A β S s → W P Γ c fr s fun e fr' s' => ∃ h' S', Left GL A β s N fr' s' h' S' ∧ Q e h' S'
def onT (k : (Nat → T) → TS → Prop) (Q : Exit → (Nat → T) → TS → Prop) (e : Exit) (h : Nat → T) (S : TS) : Prop := match e with
  | .normal => k h S
  | e => Q e h S
def onTB (id : Nat) (Q : Exit → (Nat → T) → TS → Prop) (e : Exit) (h : Nat → T) (S : TS) : Prop := match e with
  | .exit i => bif Nat.beq i id then Q .normal h S else Q (.exit i) h S
  | e => Q e h S
theorem Left.refl {fr : Fr} (hF : FrOk A β (objAt s.obj) N h fr) (hT : TRel GL A β S s) : Left GL A β s N fr s h S := ⟨A, β, hF, hT, Stp.refl⟩
theorem TW.mono {c : Code} (k : TW P Γ GL N c h S Q) (hq : ∀ e h S, Q e h S → R e h S) : TW P Γ GL N c h S R := fun A β fr s hF hT =>
  (k A β fr s hF hT).mono fun e fr' s' ⟨h', S', h1, h2⟩ => ⟨h', S', h1, hq _ _ _ h2⟩
theorem TW.skip (k : Q .normal h S) : TW P Γ GL N .skip h S Q := fun A β fr s hF hT => W.skip ⟨h, S, Left.refl hF hT, k⟩
theorem TW.ret (k : Q .ret h S) : TW P Γ GL N .ret h S Q := fun A β fr s hF hT => W.ret ⟨h, S, Left.refl hF hT, k⟩
theorem TW.exit {id : Nat} (k : Q (.exit id) h S) : TW P Γ GL N (.exit id) h S Q := fun A β fr s hF hT => W.exit ⟨h, S, Left.refl hF hT, k⟩
theorem TW.label {l : Nat} (k : Q .normal h S) : TW P Γ GL N (.label l) h S Q := fun A β fr s hF hT => W.label ⟨h, S, Left.refl hF hT, k⟩
theorem TW.seq {a b : Code} (k : TW P Γ GL N a h S (onT (fun h S => TW P Γ GL N b h S Q) Q)) : TW P Γ GL N (.seq a b) h S Q := fun A β fr s hF hT => by
  refine W.seq ((k A β fr s hF hT).mono ?_)
  rintro e fr' s' ⟨h', S', ⟨A', β', k1, k2, k3⟩, hq⟩
  cases e with
  | normal =>
    refine (hq A' β' fr' s' k1 k2).mono ?_
    rintro e2 fr2 s2 ⟨h2, S2, l2, q2⟩
    exact ⟨h2, S2, Left.trans (h' := h) (fr' := fr) hT.le k3 l2, q2⟩
  | _ => exact ⟨h', S', ⟨A', β', k1, k2, k3⟩, hq⟩
theorem TW.cond {c : Operand} {t f : Code} {b : Bool} (hb : evalT GL h c = .bool b) (k : TW P Γ GL N (bif b then t else f) h S Q) : TW P Γ GL N (.cond c t f) h S Q := fun A β fr s hF hT => by
  have := hF.eval hT c
  rw [hb] at this
  refine W.cond (b := b) ?_ (k A β fr s hF hT)
  generalize evalC fr c = v at this
  cases this
  rfl
theorem TW.block {id : Nat} {b : Code} (k : TW P Γ GL N b h S (onTB id Q)) : TW P Γ GL N (.block id b) h S Q := fun A β fr s hF hT => by
  refine W.block ((k A β fr s hF hT).mono ?_)
  rintro e fr' s' ⟨h', S', l, hq⟩
  cases e with
  | exit i =>
    simp only [onB]
    simp only [onTB] at hq
    cases hb : Nat.beq i id with
    | true => rw [hb] at hq; exact ⟨h', S', l, hq⟩
    | false => rw [hb] at hq; exact ⟨h', S', l, hq⟩
  | _ => exact ⟨h', S', l, hq⟩
theorem TW.scope {b : Code} (k : TW P Γ GL N b h S Q) : TW P Γ GL N (.scope b) h S Q := fun A β fr s hF hT => W.scope (k A β fr s hF hT)
theorem TW.loop {b : Code} (I : Nat → (Nat → T) → TS → Prop) (hb : ∀ n h S, I n h S → TW P Γ GL N b h S (onT (fun h S => ∃ m, m < n ∧ I m h S) Q)) : ∀ n h S, I n h S → TW P Γ GL N (.loop b) h S Q := by
  intro n
  induction n using Nat.strongRecOn with
  | _ n ih =>
    intro h S hI A β fr s hF hT
    obtain ⟨e, fr1, s1, h1, h', S', ⟨A', β', k1, k2, k3⟩, hq⟩ := hb n h S hI A β fr s hF hT
    cases e with
    | normal =>
      obtain ⟨m, hm, hI'⟩ := hq
      obtain ⟨e2, fr2, s2, h3, h2, S2, l2, q2⟩ := ih m hm h' S' hI' A' β' fr1 s1 k1 k2
      exact ⟨e2, fr2, s2, Ev.again h1 h3, h2, S2, Left.trans (h' := h) (fr' := fr) hT.le k3 l2, q2⟩
    | _ => exact ⟨_, _, _, Ev.last h1 (by simp), h', S', ⟨A', β', k1, k2, k3⟩, hq⟩
theorem TW.region (hE : EnvOk P Γ) {id : Nat} {ops : Array Oper} (own : List Nat) (outs : List (T × TS)) {ob : Prop} (hd : dstOk N ops.toList = true) (hr : runT P Γ GL own ops.toList ops.toList h S outs = some (ob, h', S')) (hob : ob) (hq : Q .normal h' S') : TW P Γ GL N (.region id ops false) h S Q := fun A β fr s hF hT => by
  obtain ⟨fr', s', e1, e2⟩ := runT_ok hE hd hF hT hr hob
  exact W.region e1 ⟨h', S', e2, hq⟩
noncomputable def resT (Γ : Env) (S : TS) (h : Nat → T) : List ResultVar → Option (List T)
  | [] => some []
  | .tmp t :: l => (match resT Γ S h l with | some vs => some (h t :: vs) | none => none)
  | .cell a ty :: l => (match tLoad Γ S ty (h a), resT Γ S h l with | some v, some vs => some (v :: vs) | _, _ => none)
def tupT : List T → T
  | [v] => v
  | vs => .tup vs
theorem resT_ok : ∀ {l : List ResultVar} {vs : List T} {fr : Fr} {s : CS}, FrOk A β (objAt s.obj) N h fr → TRel GL A β S s → resT Γ S h l = some vs → ∃ ws s', resC Γ fr s l = some (ws, s') ∧ VL A β (objAt s.obj) vs ws ∧ TRel GL A β S s' ∧ Stp A β s A β s' ∧ s'.obj = s.obj
  | [], vs, fr, s, hF, hT, hr => by
    simp only [resT, Option.some.injEq] at hr
    subst hr
    exact ⟨[], s, rfl, .nil, hT, Stp.refl, rfl⟩
  | .tmp t :: l, vs, fr, s, hF, hT, hr => by
    simp only [resT] at hr
    split at hr
    · rename_i vs' hv
      cases hr
      obtain ⟨ws, s', k1, k2, k3, k4, k5⟩ := resT_ok hF hT hv
      exact ⟨_, s', by simp only [resC, k1], .cons (hF.slot t) k2, k3, k4, k5⟩
    · simp at hr
  | .cell a ty :: l, vs, fr, s, hF, hT, hr => by
    simp only [resT] at hr
    split at hr
    · rename_i v vs' hv hvs
      cases hr
      obtain ⟨ad, i, w, f, q1, q2, q3, q4, q5⟩ := tLoad_rd hT (hF.slot a) hv
      obtain ⟨ws, s', k1, k2, k3, k4, k5⟩ := resT_ok (s := { s with rd := ins s.lim s.rd f }) hF (hT.read f) hvs
      refine ⟨w :: ws, s', ?_, .cons q5 k2, k3, (Stp.read q3).trans hT.le k4, k5⟩
      simp only [resC, q1, q2, q4, k1]
    · simp at hr
def argT : List T → Nat → (Nat → T) → (Nat → T)
  | [], _, h => h
  | v :: l, i, h => argT l (i + 1) (tupd h i v)
theorem argT_cons (v : T) (l : List T) (i : Nat) (h : Nat → T) : argT (v :: l) i h = argT l (i + 1) (tupd h i v) := rfl
theorem argT_nil (i : Nat) (h : Nat → T) : argT [] i h = h := rfl
theorem argT_ok {g : Nat → Fam} : ∀ {args : List T} {vargs : List Value} {i : Nat} {h : Nat → T} {fr : Fr}, VL A β g args vargs → FrOk A β g N h fr → i + args.length ≤ N → FrOk A β g N (argT args i h) (Fr.ofArgs vargs i fr)
  | _, _, i, h, fr, .nil, hF, _ => hF
  | _, _, i, h, fr, .cons h1 h2, hF, hl => by
    rw [List.length_cons] at hl
    show FrOk A β g N (argT _ (i + 1) _) (Fr.ofArgs _ (i + 1) (fr.put i _))
    have hi : i < N := by omega
    exact argT_ok (i := i + 1) h2 (hF.put (d := some i) (fun t ht => by cases ht; exact hi) h1) (by rw [Nat.add_right_comm]; exact hl)
theorem FrOk.start {g : Nat → Fam} (hN : N ≤ 512) : FrOk A β g N (fun _ => .junk) ⟨N, Tr.all undef 9⟩ := ⟨rfl, hN, fun t => .junk _⟩
def Shift (GL : List (Nat × List Value)) (v : T) (S : TS) (v' : T) (S' : TS) : Prop :=
  ∀ A β s w, TRel GL A β S s → VT A β (objAt s.obj) v w → ∃ A' β', TRel GL A' β' S' s ∧ VT A' β' (objAt s.obj) v' w ∧ Stp A β s A' β' s
theorem Shift.refl (v : T) (S : TS) : Shift GL v S v S := fun A β s w hT hv => ⟨A, β, hT, hv, Stp.refl⟩
theorem tup_ok {g : Nat → Fam} {vs : List T} {ws : List Value} (h : VL A β g vs ws) : VT A β g (tupT vs) (tupC ws) := by
  cases h with
  | nil => exact .tup .nil
  | cons h1 h2 =>
    cases h2 with
    | nil => exact h1
    | cons h3 h4 => exact .tup (.cons h1 (.cons h3 h4))
theorem Call.go {f : FuncId} {fn : Func} {body : Code} {args : List T} {v : T} {Sf : TS} (N : Nat) (hax : Γ.ax f = none) (hf : Γ.fn.at f = some fn) (hb : fn.body = some body) (hn : fn.ntmps = N) (hN : N ≤ 512) (hl : args.length ≤ N)
    (k : TW P Γ GL N body (argT args 0 fun _ => .junk) S fun e h' S' => (e = .normal ∨ e = .ret) ∧ ∃ vs, resT Γ S' h' fn.results.toList = some vs ∧ Shift GL (tupT vs) S' v Sf) : Call P Γ GL f args S v Sf := by
  intro A β s vargs hT hargs
  obtain ⟨e, fr', s1, h1, h', S', ⟨A', β', k1, k2, k3⟩, he, vs, hr, hsh⟩ := k A β _ s (argT_ok hargs (FrOk.start hN) (by omega)) hT
  obtain ⟨ws, s2, r1, r2, r3, r4, r5⟩ := resT_ok k1 k2 hr
  rw [← r5] at r2
  obtain ⟨A2, β2, q1, q2, q3⟩ := hsh A' β' s2 _ r3 (tup_ok r2)
  refine ⟨tupC ws, s2, A2, β2, ?_, q1, q2, (k3.trans hT.le (r4.trans k2.le q3))⟩
  have hlen := hargs.len
  exact callR_body hax hf hb (by omega) ⟨e, fr', s1, by rw [hn]; exact h1, he, ws, r1, rfl⟩
end
end Go.Proofs.Ytfalnphlgfoflaa
