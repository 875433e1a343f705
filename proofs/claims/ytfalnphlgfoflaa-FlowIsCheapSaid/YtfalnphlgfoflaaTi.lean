/- Trees: one operation, a region, a call. No program in sight. -/
import Derived.Test.YtfalnphlgfoflaaTma
namespace Go.Proofs.Ytfalnphlgfoflaa
open Go Go.RowKit
set_option linter.unusedSimpArgs false
set_option linter.unusedVariables false
noncomputable def constT (v : Value) : T := match zeroT v with
  | some t => t
  | none => match v with
    | .agg cs => (match zerosT cs.toList with | some l => .agg l | none => .junk)
    | _ => .junk
noncomputable def globT : List (Nat × List Value) → Nat → T
  | [], _ => .junk
  | x :: l, k => bif Nat.beq x.1 k then (match zerosT x.2 with | some c => .cp c | none => .junk) else globT l k
noncomputable def evalT (GL : List (Nat × List Value)) (h : Nat → T) : Operand → T
  | .tmp t => h t
  | .const v => constT v
  | .global k => globT GL k
  | .func f => .fn f [] []
def tupd (h : Nat → T) (t : Nat) (v : T) : Nat → T := fun u => if u = t then v else h u
theorem tupd_same (h : Nat → T) (t : Nat) (v : T) : tupd h t v t = v := if_pos rfl
theorem tupd_ne (h : Nat → T) (t u : Nat) (v : T) (hn : u ≠ t) : tupd h t v u = h u := if_neg hn
def putT (h : Nat → T) : Option Tmp → T → Nat → T
  | some d, v => tupd h d v
  | none, _ => h
noncomputable def withS (S : TS) : Option T → Option (T × TS)
  | some t => some (t, S)
  | none => none
noncomputable def withJ : Option TS → Option (T × TS)
  | some S => some (.junk, S)
  | none => none
noncomputable def ownD (own : List Nat) (d : Option Tmp) : Bool := match d with | some d => has own d | none => false
noncomputable def tBuiltinP (Γ : Env) (S : TS) (ρ : Operand → T) (b : Builtin) (args : List Operand) (ts : List TypeId) : Option T := match b with
  | .len => (match args, ts with | [x], [t] => tLen Γ S t (ρ x) | _, _ => none)
  | .min => (match args with | [x, y] => (match ρ x, ρ y with | .int k a, .int _ b => some (.int k (min a b)) | _, _ => none) | _ => none)
  | .max => (match args with | [x, y] => (match ρ x, ρ y with | .int k a, .int _ b => some (.int k (max a b)) | _, _ => none) | _ => none)
  | _ => none
noncomputable def stepP (P : Program) (Γ : Env) (ρ : Operand → T) (o : Oper) (S : TS) : Option T :=
  match o.op with
  | .move x => some (ρ x)
  | .assign x => some (ρ x)
  | .pick c a b => (match ρ c with | .bool t => some (bif t then ρ a else ρ b) | _ => none)
  | .build t parts => tBuild Γ ρ t parts.toList
  | .buildSlice t n parts => tBuildFrozen Γ ρ t n parts.toList
  | .load t x => tLoad Γ S t (ρ x)
  | .nilCheck x => tNilCheck S (ρ x)
  | .sliceToArrayPointer t x => tS2A Γ S t (ρ x)
  | .makeFunc fn first captured => (match fn with | .func f => some (.fn f (first.toList.map ρ) (captured.toList.map ρ)) | _ => none)
  | .slice t x lo hi mx => tSlice Γ S t (ρ x) (lo.map ρ) (hi.map ρ) (mx.map ρ)
  | .fieldAddr t x k => tFieldAddr Γ S t k (ρ x)
  | .field t x k => tField Γ t k (ρ x)
  | .indexAddr t x ix => tIndexAddr Γ S t (ρ x) (ρ ix)
  | .index t x ix => tIndex Γ t (ρ x) (ρ ix)
  | .extract x k => tExtract k (ρ x)
  | .unOp op _ x => tUn op (ρ x)
  | .convert src dst x => tConvP Γ S src dst (ρ x)
  | .binOp op t x y _ => tBin P Γ S t op x y (ρ x) (ρ y)
  | .lookup t x k ok => tLookup Γ S t (ρ x) (ρ k) ok
  | .call c => (match c.callee with
    | .builtin b => tBuiltinP Γ S ρ b c.args.toList c.argTypes.toList
    | _ => none)
  | _ => none
noncomputable def stepT (P : Program) (Γ : Env) (own : List Nat) (ρ : Operand → T) (o : Oper) (S : TS) : Option (T × TS) :=
  match o.op with
  | .alloc e => tAlloc Γ S e
  | .box _ x => tBox S (ρ x)
  | .buildSlice t n parts => bif ownD own o.dst then tBuildOwn Γ S ρ t n parts.toList else withS S (tBuildFrozen Γ ρ t n parts.toList)
  | .store t x v => withJ (tStore Γ S t (ρ v) (ρ x))
  | .makeSlice t l c => tMakeSlice Γ S t (ρ l) (ρ c)
  | .convert src dst x => bif ownD own o.dst then tConvOwn Γ S src dst (ρ x) else withS S (tConvP Γ S src dst (ρ x))
  | .makeMap _ none => tMakeMap S
  | .mapUpdate t m k v => withJ (tMapUpdate Γ S t (ρ k) (ρ v) (ρ m))
  | .insert t m k v => withJ (tMapUpdate Γ S t (ρ k) (ρ v) (ρ m))
  | .call c => (match c.callee with
    | .builtin .append => (match c.args.toList, c.argTypes.toList with | [x, y], [t, tx] => bif srcT Γ tx then tAppend Γ S t (ρ y) (ρ x) else none | _, _ => none)
    | .builtin .copy => (match c.args.toList, c.argTypes.toList with | [x, y], [t, _] => tCopy Γ S t (ρ y) (ρ x) | _, _ => none)
    | .builtin b => withS S (tBuiltinP Γ S ρ b c.args.toList c.argTypes.toList)
    | _ => none)
  | _ => withS S (stepP P Γ ρ o S)
section
variable {GL : List (Nat × List Value)} {A A' A2 : Nat → Prop} {β β' β2 : Bx} {S S' : TS} {s s' s2 : CS} {P : Program} {Γ : Env}
theorem VT.undf {g : Nat → Fam} : VT A β g (.tup []) undef := VT.tup (vs := []) .nil
theorem constT_ok {g : Nat → Fam} (v : Value) : VT A β g (constT v) v := by
  unfold constT
  split
  · rename_i t ht; exact (zeroT_ok ht).1
  · split
    · rename_i cs
      split
      · rename_i l hl
        obtain ⟨cs⟩ := cs
        exact .agg (zerosT_ok hl).1
      · exact .junk _
    · exact .junk _
theorem globT_ok {g : Nat → Fam} : ∀ (L : List (Nat × List Value)) (k : Nat), (∀ x, x ∈ L → A x.1 ∧ rowOf (g x.1).rows (x.1 * 1024) = some x.2) → VT A β g (globT L k) (.pointer (some (mkA k (k * 1024) 0)))
  | [], k, _ => .junk _
  | x :: l, k, h => by
    unfold globT
    cases hb : Nat.beq x.1 k with
    | false => exact globT_ok l k fun y hy => h y (by simp [hy])
    | true =>
      have := Nat.eq_of_beq_eq_true hb
      subst this
      simp only [cond_true]
      split
      · rename_i c hc
        obtain ⟨h1, h2⟩ := h x (by simp)
        exact .cp h1 h2 (zerosT_ok hc).1 (by rw [List.drop_zero, List.take_length])
      · exact .junk _
structure FrOk (A : Nat → Prop) (β : Bx) (g : Nat → Fam) (N : Nat) (h : Nat → T) (fr : Fr) : Prop where
  nt : fr.nt = N
  le : N ≤ 512
  slot : ∀ t, VT A β g (h t) (fr.get t)
theorem FrOk.mono {N : Nat} {h : Nat → T} {fr : Fr} {g g' : Nat → Fam} (k : FrOk A β g N h fr) (hA : ∀ f, A f → A' f) (hg : ∀ f, A f → g' f = g f) (hβ : Bx.le β β') : FrOk A' β' g' N h fr := ⟨k.nt, k.le, fun t => (k.slot t).mono hA hg hβ⟩
theorem FrOk.eval (hT : TRel GL A β S s) {N : Nat} {h : Nat → T} {fr : Fr} (k : FrOk A β (objAt s.obj) N h fr) (x : Operand) : VT A β (objAt s.obj) (evalT GL h x) (evalC fr x) := by
  cases x with
  | tmp t => exact k.slot t
  | const v => exact constT_ok v
  | global g => exact globT_ok GL g hT.glob
  | func f => exact .fn .nil .nil
def dstOk (N : Nat) (ops : List Oper) : Bool := ops.all fun o => match o.dst with | some d => Nat.blt d N | none => true
theorem FrOk.put {N : Nat} {h : Nat → T} {fr : Fr} {g : Nat → Fam} (k : FrOk A β g N h fr) {d : Option Tmp} (hd : ∀ t, d = some t → t < N) {t : T} {v : Value} (hv : VT A β g t v) : FrOk A β g N (putT h d t) (putC fr d v) := by
  cases d with
  | none => exact k
  | some d =>
    have hdN := hd d rfl
    refine ⟨?_, k.le, fun u => ?_⟩
    · show (fr.put d v).nt = N
      unfold Fr.put
      rw [sel_eq]
      split <;> exact k.nt
    · show VT A β g (tupd h d t u) ((fr.put d v).get u)
      by_cases hu : u = d
      · subst hu
        rw [tupd_same, Fr.get_put_same v (by rw [k.nt]; exact hdN) (by rw [k.nt]; exact k.le)]
        exact hv
      · rw [tupd_ne _ _ _ _ hu, Fr.get_put_other v (by rw [k.nt]; exact k.le) (fun hh => hu hh.symm)]
        exact k.slot u
theorem VL_map {g : Nat → Fam} {ρT : Operand → T} {ρ : Operand → Value} (hρ : ∀ x, VT A β g (ρT x) (ρ x)) : ∀ (l : List Operand), VL A β g (l.map ρT) (l.map ρ)
  | [] => .nil
  | x :: l => .cons (hρ x) (VL_map hρ l)
theorem VO_map {g : Nat → Fam} {ρT : Operand → T} {ρ : Operand → Value} (hρ : ∀ x, VT A β g (ρT x) (ρ x)) : ∀ (l : Option Operand), VO A β g (l.map ρT) (l.map ρ)
  | none => .none
  | some x => .some (hρ x)
theorem withS_ok {r : Option T} {t : T} {S1 S2 : TS} (h : withS S1 r = some (t, S2)) : r = some t ∧ S2 = S1 := by
  unfold withS at h
  split at h
  · cases h; exact ⟨rfl, rfl⟩
  · simp at h
theorem withJ_ok {r : Option TS} {t : T} {S2 : TS} (h : withJ r = some (t, S2)) : r = some S2 ∧ t = .junk := by
  unfold withJ at h
  split at h
  · cases h; exact ⟨rfl, rfl⟩
  · simp at h
theorem tBuiltinP_ok (hT : TRel GL A β S s) {ρT : Operand → T} {ρ : Operand → Value} (hρ : ∀ x, VT A β (objAt s.obj) (ρT x) (ρ x)) {o : Oper} {b : Builtin} {args : Array Operand} {ts : Array TypeId} {r : T} (ho : o.op = .call ⟨.builtin b, args, ts⟩) (ht : tBuiltinP Γ S ρT b args.toList ts.toList = some r) : Ok0 GL A β S s (opBuiltin P Γ ρ o s b args.toList ts.toList) r := by
  unfold tBuiltinP at ht
  split at ht
  · split at ht
    · rename_i x t e1 e2
      rw [e1, e2]
      exact tLen_ok hT (hρ x) ht
    · simp at ht
  · split at ht
    · rename_i x y e1
      split at ht
      · rename_i k a k' b' e2 e3
        cases ht
        obtain ⟨args⟩ := args
        simp only at e1
        subst e1
        obtain ⟨d, opx, ty, pos, e, g⟩ := o
        simp only at ho
        subst ho
        have h1 := hρ x; have h2 := hρ y
        rw [e2] at h1; rw [e3] at h2
        generalize f1 : ρ x = vx at h1
        generalize f2 : ρ y = vy at h2
        cases h1; cases h2
        show Ok0 GL A β S s (opBuiltin P Γ ρ _ s .min [x, y] ts.toList) _
        rw [o_min f1 f2]
        exact Ok0.same hT (.int _ _)
      · simp at ht
    · simp at ht
  · split at ht
    · rename_i x y e1
      split at ht
      · rename_i k a k' b' e2 e3
        cases ht
        obtain ⟨args⟩ := args
        simp only at e1
        subst e1
        obtain ⟨d, opx, ty, pos, e, g⟩ := o
        simp only at ho
        subst ho
        have h1 := hρ x; have h2 := hρ y
        rw [e2] at h1; rw [e3] at h2
        generalize f1 : ρ x = vx at h1
        generalize f2 : ρ y = vy at h2
        cases h1; cases h2
        show Ok0 GL A β S s (opBuiltin P Γ ρ _ s .max [x, y] ts.toList) _
        rw [o_max f1 f2]
        exact Ok0.same hT (.int _ _)
      · simp at ht
    · simp at ht
  · simp at ht
theorem stepP_ok (hE : EnvOk P Γ) (hT : TRel GL A β S s) {ρT : Operand → T} {ρ : Operand → Value} (hρ : ∀ x, VT A β (objAt s.obj) (ρT x) (ρ x)) {call : CallC} {o : Oper} {r : T} (ht : stepP P Γ ρT o S = some r) : Ok0 GL A β S s (cop P Γ call ρ o s) r := by
  unfold stepP at ht
  split at ht
  · rename_i x ho
    cases ht
    unfold cop; simp only [ho]
    exact Ok0.same hT (hρ x)
  · rename_i x ho
    cases ht
    unfold cop; simp only [ho]
    exact Ok0.same hT (hρ x)
  · rename_i c a b ho
    split at ht
    · rename_i t hc
      cases ht
      unfold cop; simp only [ho]
      have h1 := hρ c
      rw [hc] at h1
      generalize f1 : ρ c = vc at h1
      cases h1
      rw [pick_on]
      cases t with
      | true => exact Ok0.same hT (hρ a)
      | false => exact Ok0.same hT (hρ b)
    · simp at ht
  · rename_i t parts ho
    unfold cop; simp only [ho]
    exact tBuild_ok hT hρ ht
  · rename_i t n parts ho
    unfold cop; simp only [ho]
    exact tBuildFrozen_ok hT hρ ht
  · rename_i t x ho
    unfold cop; simp only [ho]
    exact tLoad_ok hT (hρ x) ht
  · rename_i x ho
    unfold cop; simp only [ho]
    exact tNilCheck_ok hT (hρ x) ht
  · rename_i t x ho
    unfold cop; simp only [ho]
    exact tS2A_ok hT (hρ x) ht
  · rename_i fn first captured ho
    split at ht
    · rename_i f
      cases ht
      unfold cop; simp only [ho]
      have e1 : first.map ρ = ⟨first.toList.map ρ⟩ := by rw [← Array.toList_map]
      have e2 : captured.map ρ = ⟨captured.toList.map ρ⟩ := by rw [← Array.toList_map]
      rw [e1, e2]
      exact Ok0.same hT (.fn (VL_map hρ _) (VL_map hρ _))
    · simp at ht
  · rename_i t x lo hi mx ho
    unfold cop; simp only [ho]
    exact tSlice_ok hT (hρ x) (VO_map hρ _) (VO_map hρ _) (VO_map hρ _) ht
  · rename_i t x k ho
    unfold cop; simp only [ho]
    exact tFieldAddr_ok hT (hρ x) ht
  · rename_i t x k ho
    unfold cop; simp only [ho]
    exact tField_ok hT (hρ x) ht
  · rename_i t x ix ho
    unfold cop; simp only [ho]
    exact tIndexAddr_ok hT (hρ x) (hρ ix) ht
  · rename_i t x ix ho
    unfold cop; simp only [ho]
    exact tIndex_ok hT (hρ x) (hρ ix) ht
  · rename_i x k ho
    unfold cop; simp only [ho]
    exact tExtract_ok hT (hρ x) ht
  · rename_i op t x ho
    unfold cop; simp only [ho]
    exact tUn_ok hT ho (hρ x) ht
  · rename_i src dst x ho
    unfold cop; simp only [ho]
    exact tConvP_ok hE hT ho (hρ x) ht
  · rename_i op t x y t2 ho
    unfold cop; simp only [ho]
    exact tBin_ok hE hT ho (hρ x) (hρ y) ht
  · rename_i t x k ok ho
    unfold cop; simp only [ho]
    exact tLookup_ok hT (hρ x) (hρ k) ht
  · rename_i c ho
    split at ht
    · rename_i b hc
      obtain ⟨cal, args, tys⟩ := c
      simp only at hc ht
      subst hc
      unfold cop; simp only [ho]
      exact tBuiltinP_ok hT hρ ho ht
    · simp at ht
  · simp at ht
theorem stepT_ok (hE : EnvOk P Γ) (hT : TRel GL A β S s) {own : List Nat} {ρT : Operand → T} {ρ : Operand → Value} (hρ : ∀ x, VT A β (objAt s.obj) (ρT x) (ρ x)) {call : CallC} {o : Oper} {r : T} (ht : stepT P Γ own ρT o S = some (r, S')) : Ok GL A β s (cop P Γ call ρ o s) r S' := by
  unfold stepT at ht
  split at ht
  · rename_i e ho
    unfold cop; simp only [ho]
    exact tAlloc_ok hT ht
  · rename_i e x ho
    unfold cop; simp only [ho]
    exact tBox_ok hT (hρ x) ht
  · rename_i t n parts ho
    unfold cop; simp only [ho]
    cases hw : ownD own o.dst with
    | true => rw [hw] at ht; exact tBuildOwn_ok hT hρ ht
    | false =>
      rw [hw] at ht
      obtain ⟨h1, rfl⟩ := withS_ok ht
      exact (tBuildFrozen_ok hT hρ h1).ok
  · rename_i t x v ho
    obtain ⟨h1, rfl⟩ := withJ_ok ht
    unfold cop; simp only [ho]
    exact tStore_ok hT (hρ x) (hρ v) h1
  · rename_i t l c ho
    unfold cop; simp only [ho]
    exact tMakeSlice_ok hT (hρ l) (hρ c) ht
  · rename_i src dst x ho
    unfold cop; simp only [ho]
    cases hw : ownD own o.dst with
    | true => rw [hw] at ht; exact tConvOwn_ok hT (hρ x) ht
    | false =>
      rw [hw] at ht
      obtain ⟨h1, rfl⟩ := withS_ok ht
      exact (tConvP_ok hE hT ho (hρ x) h1).ok
  · rename_i ho
    unfold cop; simp only [ho]
    exact tMakeMap_ok hT ht
  · rename_i t m k v ho
    obtain ⟨h1, rfl⟩ := withJ_ok ht
    unfold cop; simp only [ho]
    exact tMapUpdate_ok hT (hρ k) (hρ v) (hρ m) h1
  · rename_i t m k v ho
    obtain ⟨h1, rfl⟩ := withJ_ok ht
    unfold cop; simp only [ho]
    exact tMapUpdate_ok hT (hρ k) (hρ v) (hρ m) h1
  · rename_i c ho
    obtain ⟨cal, args, tys⟩ := c
    simp only at ht
    split at ht
    · split at ht
      · rename_i x y t tx e1 e2
        unfold cop; simp only [ho]
        rw [e1, e2]
        cases hq : srcT Γ tx with
        | false => rw [hq] at ht; simp at ht
        | true =>
          rw [hq, cond_true] at ht
          rw [op_append hq]
          exact tAppend_ok hT (hρ x) (hρ y) ht
      · simp at ht
    · split at ht
      · rename_i x y t tx e1 e2
        unfold cop; simp only [ho]
        rw [e1, e2]
        exact tCopy_ok hT (hρ x) (hρ y) ht
      · simp at ht
    · obtain ⟨h1, rfl⟩ := withS_ok ht
      unfold cop; simp only [ho]
      exact (tBuiltinP_ok hT hρ ho h1).ok
    · simp at ht
  · obtain ⟨h1, rfl⟩ := withS_ok ht
    exact (stepP_ok hE hT hρ h1).ok
end
def Call (P : Program) (Γ : Env) (GL : List (Nat × List Value)) (f : FuncId) (args : List T) (S : TS) (v : T) (S' : TS) : Prop :=
  ∀ A β s vargs, TRel GL A β S s → VL A β (objAt s.obj) args vargs → Ok GL A β s (callR P Γ f vargs s) v S'
noncomputable def guardT (ops : List Oper) (h : Nat → T) : Option (Nat × Bool) → Option Bool
  | none => some true
  | some (j, want) => match dstOf ops j with
    | some d => (match h d with | .bool b => some (b == want) | .tup _ => some false | _ => none)
    | none => none
noncomputable def callT (P : Program) (Γ : Env) (GL : List (Nat × List Value)) (S : TS) (args : List T) (f : T) (r : T × TS) : Option Prop := match f with
  | .fn k first cap => some (Call P Γ GL k (first ++ args ++ cap) S r.1 r.2)
  | _ => none
noncomputable def andT (p : Prop) : Option (Prop × (Nat → T) × TS) → Option (Prop × (Nat → T) × TS)
  | some (q, h, S) => some (p ∧ q, h, S)
  | none => none
noncomputable def runT (P : Program) (Γ : Env) (GL : List (Nat × List Value)) (own : List Nat) (ops : List Oper) : List Oper → (Nat → T) → TS → List (T × TS) → Option (Prop × (Nat → T) × TS)
  | [], h, S, _ => some (True, h, S)
  | o :: l, h, S, outs => match guardT ops h o.guard with
    | none => none
    | some false => runT P Γ GL own ops l (putT h o.dst (.tup [])) S outs
    | some true => match o.op with
      | .call ⟨.value f, args, tys⟩ => (match outs with
        | r :: outs => (match callT P Γ GL S (args.toList.map (evalT GL h)) (evalT GL h f) r with
          | some p => andT p (runT P Γ GL own ops l (putT h o.dst r.1) r.2 outs)
          | none => none)
        | [] => none)
      | _ => (match stepT P Γ own (evalT GL h) o S with
        | some (t, S1) => runT P Γ GL own ops l (putT h o.dst t) S1 outs
        | none => none)
section
variable {GL : List (Nat × List Value)} {A A' A2 : Nat → Prop} {β β' β2 : Bx} {S S' : TS} {s s' s2 : CS} {P : Program} {Γ : Env}
theorem guardT_ok {g : Nat → Fam} {ops : List Oper} {h : Nat → T} {N : Nat} {fr : Fr} {o : Oper} {b : Bool} (k : FrOk A β g N h fr) (hg : guardT ops h o.guard = some b) : wantedC ops fr o = b := by
  unfold guardT at hg
  unfold wantedC
  split at hg
  · rename_i hh
    cases hg
    rw [hh]
  · rename_i j want hh
    rw [hh]
    split at hg
    · rename_i d hd
      simp only [hd]
      split at hg
      · rename_i b' hb
        have := k.slot d
        rw [hb] at this
        generalize fr.get d = v at this
        cases this
        simp only [Option.some.injEq] at hg
        exact hg
      · rename_i l hb
        have := k.slot d
        rw [hb] at this
        generalize fr.get d = v at this
        cases this
        simp only [Option.some.injEq] at hg
        exact hg
      · simp at hg
    · simp at hg
def Left (GL : List (Nat × List Value)) (A : Nat → Prop) (β : Bx) (s : CS) (N : Nat) (fr' : Fr) (s' : CS) (h' : Nat → T) (S' : TS) : Prop :=
  ∃ A' β', FrOk A' β' (objAt s'.obj) N h' fr' ∧ TRel GL A' β' S' s' ∧ Stp A β s A' β' s'
theorem Left.trans {N : Nat} {fr' fr2 : Fr} {h' h2 : Nat → T} {S2 : TS} (hl : s.lim ≤ s.n) (hS : Stp A β s A' β' s') (k : Left GL A' β' s' N fr2 s2 h2 S2) : Left GL A β s N fr2 s2 h2 S2 := by
  obtain ⟨A2, β2, k1, k2, k3⟩ := k
  exact ⟨A2, β2, k1, k2, hS.trans hl k3⟩
theorem runT_ok (hE : EnvOk P Γ) {own : List Nat} {ops : List Oper} {N : Nat} : ∀ {l : List Oper} {h h' : Nat → T} {S S' : TS} {outs : List (T × TS)} {ob : Prop} {A : Nat → Prop} {β : Bx} {fr : Fr} {s : CS}, dstOk N l = true → FrOk A β (objAt s.obj) N h fr → TRel GL A β S s → runT P Γ GL own ops l h S outs = some (ob, h', S') → ob →
    ∃ fr' s', runC P Γ (callR P Γ) ops l fr s = some (fr', s') ∧ Left GL A β s N fr' s' h' S'
  | [], h, h', S, S', outs, ob, A, β, fr, s, hd, hF, hT, hr, hob => by
    simp only [runT, Option.some.injEq, Prod.mk.injEq] at hr
    obtain ⟨rfl, rfl, rfl⟩ := hr
    exact ⟨fr, s, rfl, A, β, hF, hT, Stp.refl⟩
  | o :: l, h, h', S, S', outs, ob, A, β, fr, s, hd, hF, hT, hr, hob => by
    have hd' : dstOk N l = true ∧ ∀ t, o.dst = some t → t < N := by
      unfold dstOk at hd ⊢
      rw [List.all_cons, Bool.and_eq_true] at hd
      refine ⟨hd.2, fun t ht => ?_⟩
      have := hd.1
      rw [ht] at this
      exact blt_iff.1 this
    -- one step that is done
    have go : ∀ {t : T} {S1 : TS} {r : Option (Value × CS)} {l' : List (T × TS)} {ob' : Prop}, Ok GL A β s r t S1 → (cop P Γ (callR P Γ) (evalC fr) o s = r) → wantedC ops fr o = true → runT P Γ GL own ops l (putT h o.dst t) S1 l' = some (ob', h', S') → ob' → ∃ fr' s', runC P Γ (callR P Γ) ops (o :: l) fr s = some (fr', s') ∧ Left GL A β s N fr' s' h' S' := by
      rintro t S1 r l' ob' ⟨v, s1, A1, β1, rfl, k1, k2, k3⟩ hc hw hrun hob'
      have hF1 : FrOk A1 β1 (objAt s1.obj) N h fr := hF.mono k3.sub (k3.old hT) k3.bx
      obtain ⟨fr', s', e1, e2⟩ := runT_ok hE hd'.1 (hF1.put hd'.2 k2) k1 hrun hob'
      refine ⟨fr', s', ?_, Left.trans (h' := h) (fr' := fr) hT.le k3 e2⟩
      rw [runC]
      have : stepC P Γ (callR P Γ) ops o fr s = some (putC fr o.dst v, s1) := by
        unfold stepC
        rw [hw, cond_true, hc]
      rw [this]
      exact e1
    unfold runT at hr
    split at hr
    · simp at hr
    · rename_i hg
      have hw := guardT_ok hF hg
      obtain ⟨fr', s', e1, e2⟩ := runT_ok hE hd'.1 (hF.put hd'.2 VT.undf) hT hr hob
      refine ⟨fr', s', ?_, e2⟩
      rw [runC]
      have : stepC P Γ (callR P Γ) ops o fr s = some (putC fr o.dst undef, s) := by
        unfold stepC
        rw [hw, cond_false]
      rw [this]
      exact e1
    · rename_i hg
      have hw := guardT_ok hF hg
      split at hr
      · rename_i f args tys ho
        split at hr
        · rename_i r outs'
          split at hr
          · rename_i p hp
            unfold callT at hp
            split at hp
            · rename_i k first cap hf
              simp only [Option.some.injEq] at hp
              subst hp
              cases hrun : runT P Γ GL own ops l (putT h o.dst r.1) r.2 outs' with
              | none => rw [hrun] at hr; simp [andT] at hr
              | some q =>
                obtain ⟨q1, q2, q3⟩ := q
                rw [hrun] at hr
                simp only [andT, Option.some.injEq, Prod.mk.injEq] at hr
                obtain ⟨rfl, rfl, rfl⟩ := hr
                have hfv := hF.eval hT f
                rw [hf] at hfv
                generalize e1 : evalC fr f = vf at hfv
                cases hfv with
                | fn h1 h2 =>
                  rename_i va vc
                  have hargs := VL_map (hF.eval hT) args.toList
                  have hcall := hob.1 A β s _ hT ((h1.append hargs).append h2)
                  refine go hcall ?_ hw hrun hob.2
                  unfold cop
                  simp only [ho, e1]
                  unfold opCall
                  rfl
            · simp at hp
          · simp at hr
        · simp at hr
      · split at hr
        · rename_i t S1 hst
          exact go (stepT_ok hE hT (hF.eval hT) hst) rfl hw hr hob
        · simp at hr
end
end Go.Proofs.Ytfalnphlgfoflaa
