/- Trees: the rule for regions that draw their order. No program in sight. -/
import Derived.Test.YtfalnphlgfoflaaTl
namespace Go.Proofs.Ytfalnphlgfoflaa
open Go Go.RowKit
set_option linter.unusedSimpArgs false
set_option linter.unusedVariables false
noncomputable def callP (P : Program) (Γ : Env) (GL : List (Nat × List Value)) (S : TS) (args : List T) (f : T) (r : T) : Option Prop := match f with
  | .fn k first cap => some (Call0 P Γ GL k (first ++ args ++ cap) S r)
  | _ => none
noncomputable def andP (p : Prop) : Option (Prop × (Nat → T)) → Option (Prop × (Nat → T))
  | some (q, h) => some (p ∧ q, h)
  | none => none
noncomputable def runP (P : Program) (Γ : Env) (GL : List (Nat × List Value)) (ops : List Oper) : List Oper → (Nat → T) → TS → List T → Option (Prop × (Nat → T))
  | [], h, _, _ => some (True, h)
  | o :: l, h, S, outs => match guardT ops h o.guard with
    | none => none
    | some false => runP P Γ GL ops l (putT h o.dst (.tup [])) S outs
    | some true => match o.op with
      | .call ⟨.value f, args, tys⟩ => (match outs with
        | r :: outs => (match callP P Γ GL S (args.toList.map (evalT GL h)) (evalT GL h f) r with
          | some p => andP p (runP P Γ GL ops l (putT h o.dst r) S outs)
          | none => none)
        | [] => none)
      | _ => (match stepP P Γ (evalT GL h) o S with
        | some t => runP P Γ GL ops l (putT h o.dst t) S outs
        | none => none)
noncomputable def depBad (ops : List Oper) (x y : Oper) : Bool := match x.dst with | some d => has (namesOf ops y) d | none => false
noncomputable def tagOps : Nat → List Oper → List (Bool × Oper)
  | _, [] => []
  | 0, o :: l => (true, o) :: tagOps 0 l
  | k + 1, o :: l => (false, o) :: tagOps k l
noncomputable def lateBad (x y : Bool × Oper) : Bool := y.1 && !(memless x.2.op || quietNew y.2.op)
noncomputable def transOne (m : Nat) : List Nat → Nat → Bool
  | [], _ => true
  | x :: l, i => (!Nat.testBit m i || Nat.beq (Nat.land x m) x) && transOne m l (i + 1)
noncomputable def drawOk (k : Nat) (ops : List Oper) : Bool :=
  calmAll (depBad ops) [] ops (masks ops []) && (calmAll lateBad [] (tagOps k ops) (masks ops []) && (masks ops []).all fun m => transOne m (masks ops []) 0)
theorem transOne_ok {m : Nat} : ∀ {l : List Nat} {i : Nat}, transOne m l i = true → ∀ j, j < l.length → Nat.testBit m (i + j) = true → ∀ b, Nat.testBit (nth 0 l j) b = true → Nat.testBit m b = true
  | [], _, _, j, hj, _, _, _ => by simp at hj
  | x :: l, i, h, j, hj, ht, b, hb => by
    simp only [transOne, Bool.and_eq_true] at h
    cases j with
    | zero =>
      have h1 := h.1
      rw [show Nat.testBit m i = true from ht] at h1
      simp only [Bool.not_true, Bool.false_or] at h1
      have h2 : x &&& m = x := Nat.eq_of_beq_eq_true h1
      have h3 : Nat.testBit x b = true := hb
      rw [← h2, Nat.testBit_and, Bool.and_eq_true] at h3
      exact h3.2
    | succ j => exact transOne_ok h.2 j (by simpa using hj) (by rw [show i + 1 + j = i + (j + 1) by omega]; exact ht) b hb
theorem masks_len : ∀ (l : List Oper) (ms : List Nat), (masks l ms).length = ms.length + l.length
  | [], ms => by simp [masks]
  | o :: l, ms => by
    simp only [masks]
    rw [masks_len l]
    simp only [List.length_append, List.length_cons, List.length_nil]
    omega
theorem tagOps_get : ∀ {k : Nat} {ops : List Oper} {i : Nat} {o : Oper}, ops[i]? = some o → (tagOps k ops)[i]? = some (decide (k ≤ i), o)
  | _, [], i, o, h => by simp at h
  | 0, x :: l, i, o, h => by
    cases i with
    | zero => simp only [List.getElem?_cons_zero, Option.some.injEq] at h; subst h; rfl
    | succ i =>
      have := tagOps_get (k := 0) (ops := l) (i := i) (by simpa using h)
      simpa [tagOps] using this
  | k + 1, x :: l, i, o, h => by
    cases i with
    | zero => simp only [List.getElem?_cons_zero, Option.some.injEq] at h; subst h; rfl
    | succ i =>
      have := tagOps_get (k := k) (ops := l) (i := i) (by simpa using h)
      simpa [tagOps] using this
section
variable {GL : List (Nat × List Value)} {A A' A0 : Nat → Prop} {β β' : Bx} {S S' : TS} {s s0 s' s2 : CS} {P : Program} {Γ : Env} {N : Nat} {h h' : Nat → T}
theorem drawOk_dep {k : Nat} {ops : List Oper} (hd : drawOk k ops = true) {i j : Nat} {x y : Oper} (hij : i < j) (hx : ops[i]? = some x) (hy : ops[j]? = some y) {d : Nat} (hxd : x.dst = some d) (hdy : d ∈ namesOf ops y) : Nat.testBit (nth 0 (masks ops []) j) i = true := by
  unfold drawOk at hd
  simp only [Bool.and_eq_true] at hd
  rcases calmAll_spec hd.1 i j x y hij (Nat.zero_le _) (by simpa using hx) (by simpa using hy) with q | q
  · exact q
  · unfold depBad at q
    rw [hxd] at q
    simp only at q
    rw [mem_has hdy] at q
    simp at q
theorem drawOk_late {k : Nat} {ops : List Oper} (hd : drawOk k ops = true) {i j : Nat} {x y : Oper} (hij : i < j) (hkj : k ≤ j) (hx : ops[i]? = some x) (hy : ops[j]? = some y) : Nat.testBit (nth 0 (masks ops []) j) i = true ∨ memless x.op = true ∨ quietNew y.op = true := by
  unfold drawOk at hd
  simp only [Bool.and_eq_true] at hd
  rcases calmAll_spec hd.2.1 i j _ _ hij (Nat.zero_le _) (by simpa using tagOps_get hx) (by simpa using tagOps_get hy) with q | q
  · exact .inl q
  · unfold lateBad at q
    rw [decide_eq_true hkj] at q
    simp only [Bool.true_and, Bool.not_eq_false', Bool.or_eq_true] at q
    exact .inr q
theorem drawOk_trans {k : Nat} {ops : List Oper} (hd : drawOk k ops = true) {j i b : Nat} (hj : j < ops.length) (hi : i < ops.length) (h1 : Nat.testBit (nth 0 (masks ops []) j) i = true) (h2 : Nat.testBit (nth 0 (masks ops []) i) b = true) : Nat.testBit (nth 0 (masks ops []) j) b = true := by
  unfold drawOk at hd
  simp only [Bool.and_eq_true] at hd
  have hl := masks_len ops []
  simp only [List.length_nil, Nat.zero_add] at hl
  have hm : nth 0 (masks ops []) j ∈ masks ops [] := by
    have key : ∀ (l : List Nat) (j : Nat), j < l.length → nth 0 l j ∈ l := by
      intro l
      induction l with
      | nil => intro j hj; simp at hj
      | cons x l ih =>
        intro j hj
        cases j with
        | zero => exact List.mem_cons_self
        | succ j => exact List.mem_cons_of_mem _ (ih j (by simpa using hj))
    exact key _ j (by omega)
  have := List.all_eq_true.1 hd.2.2 _ hm
  exact transOne_ok this i (by omega) (by rw [Nat.zero_add]; exact h1) b h2
def SupL (A0 : Nat → Prop) (L : List Lg) (D : Nat) (f : Nat) : Prop := A0 f ∨ ∃ (m : Nat) (x : Lg), Nat.testBit D m = true ∧ L[m]? = some x ∧ x.lo ≤ f ∧ f < x.hi
theorem SupL.more {L M : List Lg} {D E : Nat} (hD : ∀ m, m < L.length → Nat.testBit D m = true → Nat.testBit E m = true) {f : Nat} (k : SupL A0 L D f) : SupL A0 (L ++ M) E f := by
  rcases k with k | ⟨m, x, h1, h2, h3⟩
  · exact .inl k
  · have hm := (List.getElem?_eq_some_iff.1 h2).1
    exact .inr ⟨m, x, hD m hm h1, by rw [List.getElem?_append_left hm]; exact h2, h3⟩
theorem SupL.sub {L : List Lg} {D E : Nat} (hD : ∀ m, m < L.length → Nat.testBit D m = true → Nat.testBit E m = true) {f : Nat} (k : SupL A0 L D f) : SupL A0 L E f := by
  have := SupL.more (M := []) hD k
  simpa using this
structure PreInv (GL : List (Nat × List Value)) (ops : List Oper) (A0 : Nat → Prop) (β : Bx) (S : TS) (s0 : CS) (N : Nat) (L : List Lg) (h : Nat → T) (fr : Fr) (s : CS) : Prop where
  nt : fr.nt = N
  le : N ≤ 512
  rel : TRel GL A0 β S s
  slot : ∀ t, ∃ D, VT (SupL A0 L D) β (objAt s.obj) (h t) (fr.get t) ∧ ∀ (j : Nat) (o : Oper), L.length ≤ j → ops[j]? = some o → t ∈ namesOf ops o → ∀ m, m < L.length → Nat.testBit D m = true → Nat.testBit (nth 0 (masks ops []) j) m = true
  log : ∀ (k : Nat) (x : Lg), L[k]? = some x → s0.n ≤ x.lo ∧ x.lo ≤ x.hi ∧ x.hi ≤ s.n ∧ x.wr = [] ∧ ∀ f, f ∈ x.rd → f < x.lo ∧ (SupL A0 L (nth 0 (masks ops []) k) f ∨ Own β f)
  apart : ∀ (k m : Nat) (x y : Lg), k < m → L[k]? = some x → L[m]? = some y → x.hi ≤ y.lo
  own : ∀ f, Own β f → f < s0.n
  base : ∀ f, A0 f → f < s0.n
  calm : Calm0 A0 β s0 A0 s
  lim : s0.lim ≤ s0.n
theorem TRel.more (hT : TRel GL A β S s) (A1 : Nat → Prop) (h1 : ∀ f, A f → A1 f) (h2 : ∀ f, A1 f → f < s.n) (h3 : ∀ f, A1 f → ¬ Own β f) : TRel GL A1 β S s :=
  ⟨hT.inr, hT.inv, h2, fun f hf => ⟨(hT.dis f hf).1, fun hh => h3 f hh hf⟩, hT.inj, hT.next, fun b z N l hb => (hT.cells b z N l hb).mono h1 (fun _ _ => rfl) (Bx.le_refl _) rfl fun _ _ _ _ => rfl,
    fun b l hb => (hT.maps b l hb).mono h1 (fun _ _ => rfl) (Bx.le_refl _) rfl fun _ _ => rfl, fun x hx => ⟨h1 _ (hT.glob x hx).1, (hT.glob x hx).2⟩⟩
theorem TRel.inner (hT : TRel GL A β S s) : TRel GL A β S s.inner := ⟨hT.inr, ⟨hT.inv.none, hT.inv.vers, Nat.le_refl _⟩, hT.alt, hT.dis, hT.inj, hT.next, hT.cells, hT.maps, hT.glob⟩
theorem TRel.outer (hT : TRel GL A β S s') (hl : s.lim ≤ s'.n) : TRel GL A β S (s.outer s') := ⟨hT.inr, ⟨hT.inv.none, hT.inv.vers, hl⟩, hT.alt, hT.dis, hT.inj, hT.next, hT.cells, hT.maps, hT.glob⟩
theorem Calm0.trans (hl : s.lim ≤ s.n) (k1 : Calm0 A β s A s') (k2 : Calm0 A β s' A s2) : Calm0 A β s A s2 := by
  refine ⟨k1.can.trans k2.can, fun _ h => h, fun _ h => .inl h, fun f hf => ?_, fun x hx => ?_, fun x hx => k1.wr x (k2.wr x hx)⟩
  · rw [k2.keep f (Nat.lt_of_lt_of_le hf k1.can.n)]; exact k1.keep f hf
  · rcases k2.rd x hx with q | ⟨q, q2⟩
    · exact k1.rd x q
    · rw [k1.can.lim] at q
      exact .inr ⟨q, q2⟩
theorem PreInv.next {k0 : Nat} {ops : List Oper} (hd : drawOk k0 ops = true) {L : List Lg} {fr : Fr} {o : Oper} (I : PreInv GL ops A0 β S s0 N L h fr s) (ho : ops[L.length]? = some o) (hdst : ∀ t, o.dst = some t → t < N) {t : T} {v : Value} {s1 : CS}
    (k1 : TRel GL A' β S s1) (k2 : VT A' β (objAt s1.obj) t v) (k3 : Calm0 (SupL A0 L (nth 0 (masks ops []) L.length)) β s.inner A' s1) :
    PreInv GL ops A0 β S s0 N (L ++ [⟨s1.rd, s1.wr, s.n, s1.n⟩]) (putT h o.dst t) (putC fr o.dst v) (s.outer s1) := by
  have hsn : s.n ≤ s1.n := k3.can.n
  have hln : L.length < ops.length := (List.getElem?_eq_some_iff.1 ho).1
  have h0n : s0.n ≤ s.n := I.calm.can.n
  have hsup : ∀ f D, SupL A0 L D f → f < s.n := fun f D hf => by
    rcases hf with q | ⟨m, x, _, q2, _, q4⟩
    · have := I.base f q; omega
    · have := (I.log m x q2).2.2.1; omega
  have hA' : ∀ f, A' f → SupL A0 (L ++ [⟨s1.rd, s1.wr, s.n, s1.n⟩]) (nth 0 (masks ops []) L.length ||| 2 ^ L.length) f := fun f hf => by
    rcases k3.new f hf with q | q
    · refine SupL.more (fun m hm hb => ?_) q
      rw [Nat.testBit_or, hb]; rfl
    · refine .inr ⟨L.length, ⟨s1.rd, s1.wr, s.n, s1.n⟩, ?_, by simp, q, k1.alt f hf⟩
      rw [Nat.testBit_or, Nat.testBit_two_pow_self]; simp
  have hobj : ∀ f, f < s.n → objAt s1.obj f = objAt s.obj f := fun f hf => k3.keep f hf
  have hwr : s1.wr = [] := by
    rw [List.eq_nil_iff_forall_not_mem]
    intro x hx
    have := k3.wr x hx
    simp [CS.inner] at this
  have hcal : Calm0 A0 β s A0 (s.outer s1) := by
    refine ⟨outer_can I.rel.inv k3.can, fun _ h => h, fun _ h => .inl h, hobj, fun x hx => ?_, fun x hx => ?_⟩
    · rcases insAll_mem (l := s1.rd) rfl x hx with q | ⟨q, q2⟩
      · exact .inl q
      · refine .inr ⟨q2, ?_⟩
        have hxn : x < s0.n := by have h1 := I.calm.can.lim; have h2 := I.lim; rw [h1] at q2; omega
        rcases k3.rd x q with q3 | ⟨_, q3⟩
        · simp [CS.inner] at q3
        · rcases q3 with (q3 | ⟨m, y, _, q5, q6, _⟩) | q3
          · exact .inl q3
          · have := (I.log m y q5).1; omega
          · exact .inr q3
    · rcases insAll_mem (l := s1.wr) rfl x hx with q | ⟨q, _⟩
      · exact q
      · rw [hwr] at q; simp at q
  have hrel : TRel GL A0 β S (s.outer s1) := hcal.rel I.rel k1.inr ⟨k1.inv.none, k1.inv.vers, by have := I.rel.inv.lim; show s.lim ≤ s1.n; omega⟩ fun f hf => by have := I.rel.alt f hf; show f < s1.n; omega
  refine ⟨?_, I.le, hrel, fun t' => ?_, fun k x hx => ?_, fun k m x y hkm hx hy => ?_, I.own, I.base, ?_, I.lim⟩
  · cases hd2 : o.dst with
    | none => exact I.nt
    | some d =>
      show (fr.put d v).nt = N
      unfold Fr.put
      rw [sel_eq]
      split <;> exact I.nt
  · by_cases ht' : o.dst = some t'
    · rw [ht']
      refine ⟨nth 0 (masks ops []) L.length ||| 2 ^ L.length, ?_, fun j o' hj ho' hn m hm hb => ?_⟩
      · show VT _ _ _ (tupd h t' t t') ((fr.put t' v).get t')
        rw [tupd_same, Fr.get_put_same v (by rw [I.nt]; exact hdst _ ht') (by rw [I.nt]; exact I.le)]
        exact k2.mono hA' (fun _ _ => rfl) (Bx.le_refl _)
      · rw [List.length_append, List.length_singleton] at hj hm
        have hdep := drawOk_dep hd (show L.length < j by omega) ho ho' ht' hn
        rw [Nat.testBit_or, Bool.or_eq_true] at hb
        rcases hb with hb | hb
        · exact drawOk_trans hd (List.getElem?_eq_some_iff.1 ho').1 hln hdep hb
        · rw [Nat.testBit_two_pow] at hb
          have : L.length = m := by simpa using hb
          rw [← this]; exact hdep
    · obtain ⟨D, d1, d2⟩ := I.slot t'
      refine ⟨D &&& (2 ^ L.length - 1), ?_, fun j o' hj ho' hn m hm hb => ?_⟩
      · have e1 : putT h o.dst t t' = h t' := by
          cases hd2 : o.dst with
          | none => rfl
          | some d => exact tupd_ne _ _ _ _ fun hh => ht' (by rw [hd2, hh])
        have e2 : (putC fr o.dst v).get t' = fr.get t' := by
          cases hd2 : o.dst with
          | none => rfl
          | some d => exact Fr.get_put_other v (by rw [I.nt]; exact I.le) fun hh => ht' (by rw [hd2, hh])
        rw [e1, e2]
        refine d1.mono (fun f hf => SupL.more (fun m hm hb => ?_) hf) (fun f hf => hobj f (hsup f D hf)) (Bx.le_refl _)
        rw [Nat.testBit_and, hb, Nat.testBit_two_pow_sub_one]; simp [hm]
      · rw [List.length_append, List.length_singleton] at hj
        rw [Nat.testBit_and, Bool.and_eq_true, Nat.testBit_two_pow_sub_one] at hb
        exact d2 j o' (by omega) ho' hn m (of_decide_eq_true hb.2) hb.1
  · by_cases hk : k < L.length
    · rw [List.getElem?_append_left hk] at hx
      obtain ⟨l1, l2, l3, l4, l5⟩ := I.log k x hx
      exact ⟨l1, l2, by show x.hi ≤ s1.n; omega, l4, fun f hf => ⟨(l5 f hf).1, (l5 f hf).2.imp (fun q => SupL.more (fun _ _ hb => hb) q) id⟩⟩
    · have hk2 : k = L.length := by
        have := (List.getElem?_eq_some_iff.1 hx).1
        rw [List.length_append, List.length_singleton] at this
        omega
      subst hk2
      simp only [List.getElem?_append_right (Nat.le_refl _), Nat.sub_self, List.getElem?_cons_zero, Option.some.injEq] at hx
      subst hx
      refine ⟨h0n, hsn, Nat.le_refl _, hwr, fun f hf => ?_⟩
      rcases k3.rd f hf with q | ⟨q, q2⟩
      · simp [CS.inner] at q
      · exact ⟨q, q2.imp (fun q3 => SupL.more (fun _ _ hb => hb) q3) id⟩
  · by_cases hm : m < L.length
    · rw [List.getElem?_append_left (by omega)] at hx
      rw [List.getElem?_append_left hm] at hy
      exact I.apart k m x y hkm hx hy
    · have hm2 : m = L.length := by
        have := (List.getElem?_eq_some_iff.1 hy).1
        rw [List.length_append, List.length_singleton] at this
        omega
      subst hm2
      rw [List.getElem?_append_left hkm] at hx
      simp only [List.getElem?_append_right (Nat.le_refl _), Nat.sub_self, List.getElem?_cons_zero, Option.some.injEq] at hy
      subst hy
      exact (I.log k x hx).2.2.1
  · exact I.calm.trans I.lim hcal
theorem names_operand {ops : List Oper} {o : Oper} {x : Nat} (hx : Operand.tmp x ∈ o.op.operands.toList) : x ∈ namesOf ops o := by
  unfold namesOf
  refine List.mem_append.2 (.inl ?_)
  rw [List.mem_filterMap]
  exact ⟨.tmp x, hx, rfl⟩
theorem names_guard {ops : List Oper} {o : Oper} {j d : Nat} {w : Bool} (hg : o.guard = some (j, w)) (hd : dstOf ops j = some d) : d ∈ namesOf ops o := by
  unfold namesOf
  refine List.mem_append.2 (.inr ?_)
  rw [hg]
  simp only [hd]
  exact List.mem_singleton.2 rfl
theorem pre_ok (hE : EnvOk P Γ) {k0 : Nat} {ops : List Oper} (hd : drawOk k0 ops = true) : ∀ {l : List Oper} {L : List Lg} {h h' : Nat → T} {fr : Fr} {s : CS} {outs : List T} {ob : Prop}, PreInv GL ops A0 β S s0 N L h fr s → (∀ (j : Nat) (o : Oper), l[j]? = some o → ops[L.length + j]? = some o) → dstOk N l = true → runP P Γ GL ops l h S outs = some (ob, h') → ob →
    ∃ M fr' s', drawC P Γ (callR P Γ) ops l fr s = some (M, fr', s') ∧ PreInv GL ops A0 β S s0 N (L ++ M) h' fr' s' ∧ M.length = l.length
  | [], L, h, h', fr, s, outs, ob, I, hl, hdo, hr, hob => by
    simp only [runP, Option.some.injEq, Prod.mk.injEq] at hr
    obtain ⟨rfl, rfl⟩ := hr
    exact ⟨[], fr, s, rfl, by rw [List.append_nil]; exact I, rfl⟩
  | o :: l, L, h, h', fr, s, outs, ob, I, hl, hdo, hr, hob => by
    have hd' : dstOk N l = true ∧ ∀ t, o.dst = some t → t < N := by
      unfold dstOk at hdo ⊢
      rw [List.all_cons, Bool.and_eq_true] at hdo
      refine ⟨hdo.2, fun t ht => ?_⟩
      have := hdo.1
      rw [ht] at this
      exact blt_iff.1 this
    have ho : ops[L.length]? = some o := by have := hl 0 o rfl; simpa using this
    -- what the operation may lean on
    have hrel : TRel GL (SupL A0 L (nth 0 (masks ops []) L.length)) β S s.inner := by
      refine TRel.inner (I.rel.more _ (fun f hf => .inl hf) (fun f hf => ?_) (fun f hf ho => ?_))
      · rcases hf with q | ⟨m, x, _, q2, _, q4⟩
        · exact I.rel.alt f q
        · have := (I.log m x q2).2.2.1; omega
      · rcases hf with q | ⟨m, x, _, q2, q3, q4⟩
        · exact (I.rel.dis f ho).2 q
        · have := (I.log m x q2).1
          have := I.own f ho
          omega
    -- the slots that it names
    let ho' : Nat → T := fun t => if t ∈ namesOf ops o then h t else .junk
    have hin : ∀ t, t ∈ namesOf ops o → ho' t = h t := fun t ht => if_pos ht
    have hF : FrOk (SupL A0 L (nth 0 (masks ops []) L.length)) β (objAt s.inner.obj) N ho' fr := ⟨I.nt, I.le, fun t => by
      by_cases ht : t ∈ namesOf ops o
      · rw [hin t ht]
        obtain ⟨D, d1, d2⟩ := I.slot t
        exact d1.mono (fun f hf => SupL.sub (fun m hm hb => d2 L.length o (Nat.le_refl _) ho ht m hm hb) hf) (fun _ _ => rfl) (Bx.le_refl _)
      · rw [show ho' t = .junk from if_neg ht]
        exact .junk _⟩
    have hev : ∀ x, x ∈ o.op.operands.toList → evalT GL ho' x = evalT GL h x := fun x hx => by
      cases x with
      | tmp t => exact hin t (names_operand hx)
      | _ => rfl
    have hgd : guardT ops ho' o.guard = guardT ops h o.guard := by
      cases hg : o.guard with
      | none => rfl
      | some p =>
        obtain ⟨j, w⟩ := p
        unfold guardT
        simp only
        cases hdd : dstOf ops j with
        | none => rfl
        | some d => simp only [hin d (names_guard hg hdd)]
    -- the rest behind a step that is done
    have go : ∀ {t : T} {v : Value} {s1 : CS} {A' : Nat → Prop} {outs' : List T} {ob' : Prop}, TRel GL A' β S s1 → VT A' β (objAt s1.obj) t v → Calm0 (SupL A0 L (nth 0 (masks ops []) L.length)) β s.inner A' s1 → stepC P Γ (callR P Γ) ops o fr s.inner = some (putC fr o.dst v, s1) → runP P Γ GL ops l (putT h o.dst t) S outs' = some (ob', h') → ob' → ∃ M fr' s', drawC P Γ (callR P Γ) ops (o :: l) fr s = some (M, fr', s') ∧ PreInv GL ops A0 β S s0 N (L ++ M) h' fr' s' ∧ M.length = (o :: l).length := by
      intro t v s1 A' outs' ob' k1 k2 k3 hst hrun hob'
      have I2 := I.next hd ho hd'.2 k1 k2 k3
      obtain ⟨M, fr', s', m1, m2, m3⟩ := pre_ok hE hd I2 (fun j o' hj => by
        have := hl (j + 1) o' (by simpa using hj)
        rw [List.length_append, List.length_singleton]
        rw [show L.length + 1 + j = L.length + (j + 1) by omega]
        exact this) hd'.1 hrun hob'
      refine ⟨⟨s1.rd, s1.wr, s.n, s1.n⟩ :: M, fr', s', ?_, ?_, by simp [m3]⟩
      · rw [drawC, hst]
        simp only
        rw [m1]
      · rw [List.append_assoc] at m2
        exact m2
    unfold runP at hr
    split at hr
    · simp at hr
    · rename_i hg
      rw [← hgd] at hg
      have hw := guardT_ok hF hg
      refine go hrel VT.undf ⟨Can.refl _, fun _ h => h, fun _ h => .inl h, fun _ _ => rfl, fun _ h => .inl h, fun _ h => h⟩ ?_ hr hob
      unfold stepC
      rw [hw, cond_false]
    · rename_i hg
      rw [← hgd] at hg
      have hw := guardT_ok hF hg
      split at hr
      · rename_i f args tys hop
        split at hr
        · rename_i r outs'
          split at hr
          · rename_i p hp
            unfold callP at hp
            split at hp
            · rename_i k first cap hf
              simp only [Option.some.injEq] at hp
              subst hp
              cases hrun : runP P Γ GL ops l (putT h o.dst r) S outs' with
              | none => rw [hrun] at hr; simp [andP] at hr
              | some q =>
                obtain ⟨q1, q2⟩ := q
                rw [hrun] at hr
                simp only [andP, Option.some.injEq, Prod.mk.injEq] at hr
                obtain ⟨rfl, rfl⟩ := hr
                have hfv := hF.eval hrel f
                rw [hev f (by rw [hop]; simp [Op.operands, Call.operands]), hf] at hfv
                generalize e1 : evalC fr f = vf at hfv
                cases hfv with
                | fn h1 h2 =>
                  rename_i va vc
                  have hargs := VL_map (hF.eval hrel) args.toList
                  have hargs' : args.toList.map (evalT GL ho') = args.toList.map (evalT GL h) := map_congr fun x hx => hev x (by rw [hop]; simp [Op.operands, Call.operands]; right; simpa using hx)
                  rw [hargs'] at hargs
                  obtain ⟨v, s1, A', c1, c2, c3, c4⟩ := hob.1 _ β s.inner _ hrel ((h1.append hargs).append h2)
                  refine go c2 c3 c4 ?_ hrun hob.2
                  unfold stepC
                  rw [hw, cond_true]
                  have : cop P Γ (callR P Γ) (evalC fr) o s.inner = some (v, s1) := by
                    unfold cop
                    simp only [hop, e1]
                    unfold opCall
                    exact c1
                  rw [this]
            · simp at hp
          · simp at hr
        · simp at hr
      · split at hr
        · rename_i t hst
          have hst' : stepP P Γ (evalT GL ho') o S = some t := by rw [stepP_congr hev]; exact hst
          obtain ⟨v, s1, A', c1, c2, c3, c4⟩ := stepP_ok (call := callR P Γ) hE hrel (hF.eval hrel) hst'
          refine go c2 c3 c4 ?_ hr hob
          unfold stepC
          rw [hw, cond_true, c1]
        · simp at hr
theorem Stp.outer (hI : CInv s) (k : Stp A β s.inner A' β' s') : Stp A β s A' β' (s.outer s') := by
  refine ⟨outer_can hI k.can, k.sub, k.new, k.own, k.keep, k.bx, fun x hx => ?_, fun x hx => ?_⟩
  · rcases insAll_mem (l := s'.rd) rfl x hx with q | ⟨q, q2⟩
    · exact .inl q
    · rcases k.rd x q with q3 | ⟨_, q3⟩
      · simp [CS.inner] at q3
      · exact .inr ⟨q2, q3⟩
  · rcases insAll_mem (l := s'.wr) rfl x hx with q | ⟨q, q2⟩
    · exact .inl q
    · rcases k.wr x q with q3 | ⟨_, q3⟩
      · simp [CS.inner] at q3
      · exact .inr ⟨q2, q3⟩
theorem post_ok (hE : EnvOk P Γ) {own : List Nat} {ops : List Oper} {N : Nat} : ∀ {l : List Oper} {h h' : Nat → T} {S S' : TS} {outs : List (T × TS)} {ob : Prop} {A : Nat → Prop} {β : Bx} {fr : Fr} {s : CS}, dstOk N l = true → FrOk A β (objAt s.obj) N h fr → TRel GL A β S s → runT P Γ GL own ops l h S outs = some (ob, h', S') → ob →
    ∃ M fr' s', drawC P Γ (callR P Γ) ops l fr s = some (M, fr', s') ∧ Left GL A β s N fr' s' h' S'
  | [], h, h', S, S', outs, ob, A, β, fr, s, hd, hF, hT, hr, hob => by
    simp only [runT, Option.some.injEq, Prod.mk.injEq] at hr
    obtain ⟨rfl, rfl, rfl⟩ := hr
    exact ⟨[], fr, s, rfl, A, β, hF, hT, Stp.refl⟩
  | o :: l, h, h', S, S', outs, ob, A, β, fr, s, hd, hF, hT, hr, hob => by
    have hd' : dstOk N l = true ∧ ∀ t, o.dst = some t → t < N := by
      unfold dstOk at hd ⊢
      rw [List.all_cons, Bool.and_eq_true] at hd
      refine ⟨hd.2, fun t ht => ?_⟩
      have := hd.1
      rw [ht] at this
      exact blt_iff.1 this
    have hTi := hT.inner
    have go : ∀ {t : T} {S1 : TS} {r : Option (Value × CS)} {l' : List (T × TS)} {ob' : Prop}, Ok GL A β s.inner r t S1 → (cop P Γ (callR P Γ) (evalC fr) o s.inner = r) → wantedC ops fr o = true → runT P Γ GL own ops l (putT h o.dst t) S1 l' = some (ob', h', S') → ob' → ∃ M fr' s', drawC P Γ (callR P Γ) ops (o :: l) fr s = some (M, fr', s') ∧ Left GL A β s N fr' s' h' S' := by
      rintro t S1 r l' ob' ⟨v, s1, A1, β1, rfl, k1, k2, k3⟩ hc hw hrun hob'
      have hF1 : FrOk A1 β1 (objAt s1.obj) N h fr := hF.mono k3.sub (Stp.old (s := s.inner) hTi k3) k3.bx
      have hS : Stp A β s A1 β1 (s.outer s1) := k3.outer hT.inv
      obtain ⟨M, fr', s', e1, e2⟩ := post_ok hE hd'.1 (s := s.outer s1) (hF1.put hd'.2 k2) (k1.outer (Nat.le_trans hT.le k3.can.n)) hrun hob'
      refine ⟨⟨s1.rd, s1.wr, s.n, s1.n⟩ :: M, fr', s', ?_, Left.trans (h' := h) (fr' := fr) hT.le hS e2⟩
      rw [drawC]
      have : stepC P Γ (callR P Γ) ops o fr s.inner = some (putC fr o.dst v, s1) := by
        unfold stepC
        rw [hw, cond_true, hc]
      rw [this]
      simp only
      rw [e1]
    unfold runT at hr
    split at hr
    · simp at hr
    · rename_i hg
      have hw := guardT_ok hF hg
      have hS : Stp A β s A β (s.outer s.inner) := Stp.outer hT.inv Stp.refl
      obtain ⟨M, fr', s', e1, e2⟩ := post_ok hE hd'.1 (s := s.outer s.inner) (hF.put hd'.2 VT.undf) (hTi.outer hT.le) hr hob
      refine ⟨⟨[], [], s.n, s.n⟩ :: M, fr', s', ?_, Left.trans (h' := h) (fr' := fr) hT.le hS e2⟩
      rw [drawC]
      have : stepC P Γ (callR P Γ) ops o fr s.inner = some (putC fr o.dst undef, s.inner) := by
        unfold stepC
        rw [hw, cond_false]
      rw [this]
      simp only
      rw [e1]
      rfl
    · rename_i hg
      have hw := guardT_ok hF hg
      split at hr
      · rename_i f args tys ho
        split at hr
        · rename_i r outs'
          split at hr
          · rename_i p hp
            unfold callT at hp
            split at hp
            · rename_i k first cap hf
              simp only [Option.some.injEq] at hp
              subst hp
              cases hrun : runT P Γ GL own ops l (putT h o.dst r.1) r.2 outs' with
              | none => rw [hrun] at hr; simp [andT] at hr
              | some q =>
                obtain ⟨q1, q2, q3⟩ := q
                rw [hrun] at hr
                simp only [andT, Option.some.injEq, Prod.mk.injEq] at hr
                obtain ⟨rfl, rfl, rfl⟩ := hr
                have hfv := hF.eval hT f
                rw [hf] at hfv
                generalize e1 : evalC fr f = vf at hfv
                cases hfv with
                | fn h1 h2 =>
                  rename_i va vc
                  have hargs := VL_map (hF.eval hT) args.toList
                  have hcall := hob.1 A β s.inner _ hTi ((h1.append hargs).append h2)
                  refine go hcall ?_ hw hrun hob.2
                  unfold cop
                  simp only [ho, e1]
                  unfold opCall
                  rfl
            · simp at hp
          · simp at hr
        · simp at hr
      · split at hr
        · rename_i t S1 hst
          exact go (stepT_ok hE hTi (hF.eval hT) hst) rfl hw hr hob
        · simp at hr
theorem clash_left {x y : Lg} (h1 : x.rd = []) (h2 : x.wr = []) (h3 : x.lo = x.hi) : clash x y = false := by
  obtain ⟨rx, wx, lo, hi⟩ := x
  obtain ⟨ry, wy, lo', hi'⟩ := y
  simp only at h1 h2 h3
  subst h1; subst h2; subst h3
  exact clash_gen (fun f hf => by simp at hf) (fun f hf => by simp at hf) (fun f _ => by omega) (fun f _ => by omega)
theorem clash_right {x y : Lg} (h1 : y.rd = []) (h2 : y.wr = []) : clash x y = false := by
  obtain ⟨rx, wx, lo, hi⟩ := x
  obtain ⟨ry, wy, lo', hi'⟩ := y
  simp only at h1 h2
  subst h1; subst h2
  exact clash_gen (fun f _ => by simp) (fun f _ => by simp) (fun f hf => by simp at hf) (fun f hf => by simp at hf)
theorem TW.draw (hE : EnvOk P Γ) {id : Nat} {ops : Array Oper} {Q : Exit → (Nat → T) → TS → Prop} (k : Nat) (outsP : List T) (own : List Nat) (outs : List (T × TS)) {h1 : Nat → T} {ob1 ob2 : Prop} (hd : dstOk N ops.toList = true) (hok : drawOk k ops.toList = true)
    (hp : runP P Γ GL ops.toList (ops.toList.take k) h S outsP = some (ob1, h1)) (hob1 : ob1) (hr : runT P Γ GL own ops.toList (ops.toList.drop k) h1 S outs = some (ob2, h', S')) (hob2 : ob2) (hq : Q .normal h' S') : TW P Γ GL N (.region id ops true) h S Q := fun A β fr s hF hT => by
  have hsplit : ops.toList = ops.toList.take k ++ ops.toList.drop k := (List.take_append_drop k _).symm
  have hdd : dstOk N (ops.toList.take k) = true ∧ dstOk N (ops.toList.drop k) = true := by
    unfold dstOk at hd ⊢
    rw [hsplit, List.all_append, Bool.and_eq_true] at hd
    exact hd
  have I0 : PreInv GL ops.toList A β S s N [] h fr s := by
    refine ⟨hF.nt, hF.le, hT, fun t => ⟨0, (hF.slot t).mono (fun f hf => .inl hf) (fun _ _ => rfl) (Bx.le_refl _), fun j o _ _ _ m hm => by simp at hm⟩, fun k x hx => by simp at hx, fun k m x y _ hx => by simp at hx, fun f hf => (hT.dis f hf).1, hT.alt, ?_, hT.le⟩
    exact ⟨Can.refl _, fun _ h => h, fun _ h => .inl h, fun _ _ => rfl, fun _ h => .inl h, fun _ h => h⟩
  obtain ⟨M1, fr1, s1, d1, I1, m1⟩ := pre_ok hE hok I0 (fun j o hj => by
    rw [List.length_nil, Nat.zero_add]
    rw [List.getElem?_take] at hj
    split at hj
    · exact hj
    · simp at hj) hdd.1 hp hob1
  rw [List.nil_append] at I1
  -- behind the first part all may lean on all
  let D : Nat := 2 ^ M1.length - 1
  have hDall : ∀ m, m < M1.length → Nat.testBit D m = true := fun m hm => by
    show Nat.testBit (2 ^ M1.length - 1) m = true
    rw [Nat.testBit_two_pow_sub_one]; exact decide_eq_true hm
  have hT1 : TRel GL (SupL A M1 D) β S s1 := by
    refine I1.rel.more _ (fun f hf => .inl hf) (fun f hf => ?_) (fun f hf ho => ?_)
    · rcases hf with q | ⟨m, x, _, q2, _, q4⟩
      · exact I1.rel.alt f q
      · have := (I1.log m x q2).2.2.1; omega
    · rcases hf with q | ⟨m, x, _, q2, q3, q4⟩
      · exact (I1.rel.dis f ho).2 q
      · have := (I1.log m x q2).1
        have := I1.own f ho
        omega
  have hF1 : FrOk (SupL A M1 D) β (objAt s1.obj) N h1 fr1 := ⟨I1.nt, I1.le, fun t => by
    obtain ⟨E, e1, _⟩ := I1.slot t
    exact e1.mono (fun f hf => SupL.sub (fun m hm _ => hDall m hm) hf) (fun _ _ => rfl) (Bx.le_refl _)⟩
  have hS1 : Stp A β s (SupL A M1 D) β s1 := by
    refine ⟨I1.calm.can, fun f hf => .inl hf, fun f hf => ?_, fun f hf => .inl hf, fun f hf _ => I1.calm.keep f hf, Bx.le_refl _, I1.calm.rd, fun x hx => .inl (I1.calm.wr x hx)⟩
    rcases hf with q | ⟨m, x, _, q2, q3, _⟩
    · exact .inl q
    · have := (I1.log m x q2).1
      exact .inr (.inl (by omega))
  obtain ⟨M2, fr2, s2, d2, L2⟩ := post_ok hE hdd.2 hF1 hT1 hr hob2
  have hdraw := drawC_append d1 d2
  rw [← hsplit] at hdraw
  obtain ⟨f1, f2⟩ := draw_fit hdraw
  refine W.draw hdraw ?_ ⟨h', S', Left.trans (h' := h) (fr' := fr) hT.le hS1 L2, hq⟩
  refine calm_ms rfl (calmAll_of fun i j x y hij _ hx hy => ?_)
  simp only [List.nil_append] at hx hy
  have hjl : j < ops.toList.length := by rw [← f1]; exact (List.getElem?_eq_some_iff.1 hy).1
  have ho1 : ops.toList[i]? = some (ops.toList[i]'(by omega)) := List.getElem?_eq_getElem _
  have ho2 : ops.toList[j]? = some (ops.toList[j]'hjl) := List.getElem?_eq_getElem _
  by_cases hkj : k ≤ j
  · rcases drawOk_late hok hij hkj ho1 ho2 with q | q | q
    · exact .inl q
    · obtain ⟨a, b, c⟩ := (f2 i _ x ho1 hx).1 q
      exact .inr (clash_left a b c)
    · obtain ⟨a, b⟩ := (f2 j _ y ho2 hy).2 q
      exact .inr (clash_right a b)
  · have hjM : j < M1.length := by rw [m1, List.length_take]; omega
    rw [List.getElem?_append_left (by omega)] at hx
    rw [List.getElem?_append_left hjM] at hy
    by_cases hbit : Nat.testBit (nth 0 (masks ops.toList []) j) i = true
    · exact .inl hbit
    · right
      obtain ⟨x1, x2, x3, x4, x5⟩ := I1.log i x hx
      obtain ⟨y1, y2, y3, y4, y5⟩ := I1.log j y hy
      obtain ⟨rx, wx, lo, hi⟩ := x
      obtain ⟨ry, wy, lo', hi'⟩ := y
      simp only at x1 x2 x3 x4 x5 y1 y2 y3 y4 y5
      subst x4; subst y4
      refine clash_gen (fun f hf => by simp at hf) (fun f _ => by simp) (fun f hf => ?_) (fun f hf => by simp at hf)
      obtain ⟨g1, g2⟩ := y5 f hf
      rcases g2 with (g2 | ⟨m, z, g3, g4, g5, g6⟩) | g2
      · have := I1.base f g2; omega
      · by_cases hmi : m = i
        · subst hmi; exact absurd g3 hbit
        · by_cases hlt : m < i
          · have := I1.apart m i z _ hlt g4 hx; simp only at this; omega
          · have := I1.apart i m _ z (by omega) hx g4; simp only at this; omega
      · have := I1.own f g2; omega
end
end Go.Proofs.Ytfalnphlgfoflaa
