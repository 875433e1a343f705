/- Trees: regions that draw their order, whose loads and stores go to boxes that are told. No program in sight. -/
import Derived.Test.YtfalnphlgfoflaaTm
namespace Go.Proofs.Ytfalnphlgfoflaa
open Go Go.RowKit
set_option linter.unusedSimpArgs false
set_option linter.unusedVariables false
noncomputable def lsOf (o : Oper) : Option (Nat × Nat) := match o.op with
  | .load _ (.tmp a) => some (0, a)
  | .store _ (.tmp a) _ => some (1, a)
  | .alloc _ => (match o.dst with | some d => some (2, d) | none => none)
  | .box _ _ => (match o.dst with | some d => some (2, d) | none => none)
  | .makeSlice _ _ _ => (match o.dst with | some d => some (2, d) | none => none)
  | .buildSlice _ _ _ => (match o.dst with | some d => some (2, d) | none => none)
  | _ => none
noncomputable def noDst (a : Nat) (l : List Oper) : Bool := l.all fun o => match o.dst with | some d => !(Nat.beq d a) | none => true
noncomputable def slotOk (k a : Nat) (o : Oper) (l : List Oper) : Bool := noDst a l && (Nat.beq k 2 || noDst a [o])
noncomputable def lookS : List (Nat × Option Nat) → Nat → Option (Option Nat)
  | [], _ => none
  | (a, b) :: l, x => bif Nat.beq a x then some b else lookS l x
noncomputable def infoS (bx : List (Nat × Option Nat)) (o : Oper) (l : List Oper) : Option (Nat × Option Nat) := match lsOf o with
  | some (w, a) => bif slotOk w a o l then (match lookS bx a with | some b => some (w, b) | none => none) else none
  | none => none
noncomputable def tagS (bx : List (Nat × Option Nat)) : Nat → List Oper → List (Bool × Oper × Option (Nat × Option Nat))
  | _, [] => []
  | 0, o :: l => (true, o, infoS bx o l) :: tagS bx 0 l
  | k + 1, o :: l => (false, o, infoS bx o l) :: tagS bx k l
noncomputable def optNe : Option Nat → Option Nat → Bool
  | some a, some b => !(Nat.beq a b)
  | none, none => false
  | _, _ => true
noncomputable def freeS (p q : Option (Nat × Option Nat)) : Bool := match p, q with
  | some (w1, b1), some (w2, b2) => Nat.ble w2 1 && ((Nat.beq w1 0 && Nat.beq w2 0) || optNe b1 b2)
  | _, _ => false
noncomputable def hushed (Γ : Env) (o : Oper) : Bool := match o.op with
  | .call ⟨.builtin .len, _, ts⟩ => (match ts.toList with | [t] => (match Γ.ti.at t with | some i => (match i.desc with | .slice _ => true | .string => true | _ => false) | none => false) | _ => false)
  | .call ⟨.builtin .min, _, _⟩ => true
  | .call ⟨.builtin .max, _, _⟩ => true
  | _ => false
noncomputable def lateBadS (Γ : Env) (x y : Bool × Oper × Option (Nat × Option Nat)) : Bool := y.1 && !(memless x.2.1.op || (quietNew y.2.1.op || (hushed Γ x.2.1 || (hushed Γ y.2.1 || freeS x.2.2 y.2.2))))
noncomputable def drawOkS (Γ : Env) (k : Nat) (bx : List (Nat × Option Nat)) (ops : List Oper) : Bool := drawOk ops.length ops && calmAll (lateBadS Γ) [] (tagS bx k ops) (masks ops [])
def adr1 (S : TS) : T → Option Nat → Prop
  | .ptr b _ N, some c => b = c ∧ S.has b N = true
  | .cp _, none => True
  | .arr b _ _ _ _ N, some c => b = c ∧ S.has b N = true
  | _, _ => False
def AddrOk (bx : List (Nat × Option Nat)) (h : Nat → T) (S : TS) : Prop := match bx with
  | [] => True
  | (a, b) :: l => adr1 S (h a) b ∧ AddrOk l h S
theorem tagS_get {bx : List (Nat × Option Nat)} : ∀ {k : Nat} {ops : List Oper} {i : Nat} {o : Oper}, ops[i]? = some o → (tagS bx k ops)[i]? = some (decide (k ≤ i), o, infoS bx o (ops.drop (i + 1)))
  | _, [], i, o, h => by simp at h
  | 0, x :: l, i, o, h => by
    cases i with
    | zero => simp only [List.getElem?_cons_zero, Option.some.injEq] at h; subst h; rfl
    | succ i =>
      have := tagS_get (bx := bx) (k := 0) (ops := l) (i := i) (by simpa using h)
      simpa [tagS] using this
  | k + 1, x :: l, i, o, h => by
    cases i with
    | zero => simp only [List.getElem?_cons_zero, Option.some.injEq] at h; subst h; rfl
    | succ i =>
      have := tagS_get (bx := bx) (k := k) (ops := l) (i := i) (by simpa using h)
      simpa [tagS] using this
theorem drawOkS_late {Γ : Env} {k : Nat} {bx : List (Nat × Option Nat)} {ops : List Oper} (hd : drawOkS Γ k bx ops = true) {i j : Nat} {x y : Oper} (hij : i < j) (hkj : k ≤ j) (hx : ops[i]? = some x) (hy : ops[j]? = some y) : Nat.testBit (nth 0 (masks ops []) j) i = true ∨ memless x.op = true ∨ quietNew y.op = true ∨ hushed Γ x = true ∨ hushed Γ y = true ∨ freeS (infoS bx x (ops.drop (i + 1))) (infoS bx y (ops.drop (j + 1))) = true := by
  unfold drawOkS at hd
  simp only [Bool.and_eq_true] at hd
  rcases calmAll_spec hd.2 i j _ _ hij (Nat.zero_le _) (by simpa using tagS_get hx) (by simpa using tagS_get hy) with q | q
  · exact .inl q
  · unfold lateBadS at q
    rw [decide_eq_true hkj] at q
    simp only [Bool.true_and, Bool.not_eq_false', Bool.or_eq_true] at q
    exact .inr q
theorem free_inv {bx : List (Nat × Option Nat)} {x y : Oper} {l m : List Oper} (h : freeS (infoS bx x l) (infoS bx y m) = true) : ∃ w1 a1 b1 w2 a2 b2, lsOf x = some (w1, a1) ∧ slotOk w1 a1 x l = true ∧ lookS bx a1 = some b1 ∧ lsOf y = some (w2, a2) ∧ slotOk w2 a2 y m = true ∧ lookS bx a2 = some b2 ∧ w2 ≤ 1 ∧ ((w1 = 0 ∧ w2 = 0) ∨ optNe b1 b2 = true) := by
  have key : ∀ {o : Oper} {l : List Oper} {w b}, infoS bx o l = some (w, b) → ∃ a, lsOf o = some (w, a) ∧ slotOk w a o l = true ∧ lookS bx a = some b := by
    intro o l w b h
    unfold infoS at h
    split at h
    · rename_i w' a' h1
      cases h2 : slotOk w' a' o l with
      | false => rw [h2] at h; simp at h
      | true =>
        rw [h2, cond_true] at h
        split at h
        · rename_i b' h3
          cases h
          exact ⟨a', h1, h2, h3⟩
        · simp at h
    · simp at h
  cases h1 : infoS bx x l with
  | none => rw [h1] at h; simp [freeS] at h
  | some p =>
    cases h2 : infoS bx y m with
    | none => rw [h1, h2] at h; simp [freeS] at h
    | some q =>
      obtain ⟨w1, b1⟩ := p
      obtain ⟨w2, b2⟩ := q
      rw [h1, h2] at h
      obtain ⟨a1, c1, c2, c3⟩ := key h1
      obtain ⟨a2, d1, d2, d3⟩ := key h2
      simp only [freeS, Bool.or_eq_true, Bool.and_eq_true] at h
      refine ⟨w1, a1, b1, w2, a2, b2, c1, c2, c3, d1, d2, d3, ble_iff.1 h.1, ?_⟩
      rcases h.2 with q | q
      · exact .inl ⟨Nat.eq_of_beq_eq_true q.1, Nat.eq_of_beq_eq_true q.2⟩
      · exact .inr q
theorem addr_get {h : Nat → T} {S : TS} : ∀ {bx : List (Nat × Option Nat)} {a : Nat} {b : Option Nat}, AddrOk bx h S → lookS bx a = some b → adr1 S (h a) b
  | (a', b') :: l, a, b, k, e => by
    unfold lookS at e
    cases hb : Nat.beq a' a with
    | true =>
      rw [hb, cond_true] at e
      cases e
      rw [← Nat.eq_of_beq_eq_true hb]
      exact k.1
    | false =>
      rw [hb, cond_false] at e
      exact addr_get k.2 e
section
variable {GL : List (Nat × List Value)} {A A' A0 : Nat → Prop} {β β' : Bx} {S S' : TS} {s s0 s' s2 : CS} {P : Program} {Γ : Env} {N : Nat} {h h' : Nat → T} {call : CallC}
def IsAd (v : Value) (ad : Addr) : Prop := v = .pointer (some ad) ∨ ∃ n c, v = .slice (some ad) n c
def LsFit (fr : Fr) (w : Nat) (a : Nat) (x : Lg) : Prop := (x.rd = [] ∧ x.wr = [] ∧ x.lo = x.hi) ∨ ∃ ad, IsAd (fr.get a) ad ∧ (∀ y, y ∈ x.rd → y = ad.block) ∧ (∀ y, y ∈ x.wr → y = ad.block) ∧ (x.lo = x.hi ∨ (x.hi = x.lo + 1 ∧ x.lo = ad.block)) ∧ (w = 0 → x.wr = []) ∧ (w ≤ 1 → x.lo = x.hi)
theorem get_putC {fr : Fr} {d : Option Tmp} {v : Value} {a : Nat} (h5 : fr.nt ≤ 512) (hd : (match d with | some d => !(Nat.beq d a) | none => true) = true) : (putC fr d v).get a = fr.get a := by
  cases d with
  | none => rfl
  | some d =>
    refine Fr.get_put_other v h5 fun e => ?_
    subst e
    simp at hd
theorem draw_get {ops : List Oper} {a : Nat} : ∀ {l : List Oper} {fr fr' : Fr} {s s' : CS} {L : List Lg}, drawC P Γ call ops l fr s = some (L, fr', s') → fr.nt ≤ 512 → noDst a l = true → fr'.get a = fr.get a
  | [], fr, fr', s, s', L, hc, _, _ => by
    simp only [drawC, Option.some.injEq, Prod.mk.injEq] at hc
    rw [hc.2.1]
  | o :: l, fr, fr', s, s', L, hc, h5, hn => by
    simp only [drawC] at hc
    unfold noDst at hn
    rw [List.all_cons, Bool.and_eq_true] at hn
    split at hc
    · rename_i fr1 t h1
      split at hc
      · rename_i logs fr2 s2 h2
        cases hc
        have e : ∃ v, fr1 = putC fr o.dst v := by
          unfold stepC at h1
          cases hw : wantedC ops fr o with
          | false =>
            rw [hw] at h1
            simp only [cond_false, Option.some.injEq, Prod.mk.injEq] at h1
            exact ⟨_, h1.1.symm⟩
          | true =>
            rw [hw, cond_true] at h1
            split at h1
            · cases h1; exact ⟨_, rfl⟩
            · simp at h1
        obtain ⟨v, rfl⟩ := e
        rw [draw_get h2 (by rw [putC_nt]; exact h5) hn.2]
        exact get_putC h5 hn.1
      · simp at hc
    · simp at hc
theorem ins_nil {lim n y : Nat} (h : y ∈ ins lim [] n) : y = n := by
  unfold ins at h
  cases hb : Nat.blt n lim with
  | false => rw [hb] at h; simp at h
  | true =>
    rw [hb] at h
    have : has ([] : List Nat) n = false := rfl
    rw [cond_true, this, cond_false] at h
    simpa using h
theorem new_row {s s1 : CS} {tag : Nat} {cs : List Value} {a : Addr} (h : s.newRow tag cs = some (a, s1)) : s1.rd = s.rd ∧ s1.wr = s.wr ∧ s1.n = s.n + 1 ∧ a.block = s.n := by
  unfold CS.newRow at h
  generalize (roomIn s.obj s.n : Bool) = b at h
  cases b with
  | true => cases h; exact ⟨rfl, rfl, rfl, rfl⟩
  | false => cases h
theorem ptr_new {s s1 : CS} {tag : Nat} {cs : List Value} {v : Value} (h : ptrC (s.inner.newRow tag cs) = some (v, s1)) : s1.rd = [] ∧ s1.wr = [] ∧ s1.n = s.n + 1 ∧ ∃ ad, IsAd v ad ∧ ad.block = s.n := by
  unfold ptrC at h
  split at h
  · rename_i x hx
    cases h
    obtain ⟨a, t⟩ := x
    obtain ⟨h1, h2, h3, h4⟩ := new_row hx
    exact ⟨h1, h2, h3, a, .inl rfl, h4⟩
  · simp at h
theorem slice_new {s s1 : CS} {tag l c : Nat} {cs : List Value} {v : Value} (h : sliceC l c (s.inner.newRow tag cs) = some (v, s1)) : s1.rd = [] ∧ s1.wr = [] ∧ s1.n = s.n + 1 ∧ ∃ ad, IsAd v ad ∧ ad.block = s.n := by
  unfold sliceC at h
  split at h
  · rename_i x hx
    cases h
    obtain ⟨a, t⟩ := x
    obtain ⟨h1, h2, h3, h4⟩ := new_row hx
    exact ⟨h1, h2, h3, a, .inr ⟨_, _, rfl⟩, h4⟩
  · simp at h
theorem ls_fit {o : Oper} {fr : Fr} {s s1 : CS} {v : Value} {w : Nat} {a : Nat} (ho : lsOf o = some (w, a)) (hc : cop P Γ call (evalC fr) o s.inner = some (v, s1)) : (w ≤ 1 ∧ s1.n = s.n ∧ ∃ ad, fr.get a = .pointer (some ad) ∧ (w = 0 → s1.wr = []) ∧ (∀ y, y ∈ s1.rd → y = ad.block) ∧ (∀ y, y ∈ s1.wr → y = ad.block)) ∨ (w = 2 ∧ o.dst = some a ∧ s1.rd = [] ∧ s1.wr = [] ∧ s1.n = s.n + 1 ∧ ∃ ad, IsAd v ad ∧ ad.block = s.n) := by
  unfold lsOf at ho
  split at ho
  · rename_i t a' hop
    cases ho
    unfold cop at hc
    rw [hop] at hc
    simp only [evalC] at hc
    unfold opLoad at hc
    split at hc
    · rename_i ad had
      split at hc
      · rename_i i hi
        unfold CS.loadVar at hc
        split at hc
        · rename_i cs s3 hr
          split at hc
          · cases hc
            unfold CS.readRow at hr
            split at hr
            · cases hr
              exact .inl ⟨by omega, rfl, ad, had, fun _ => rfl, fun y hy => ins_nil hy, fun y hy => by cases hy⟩
            · simp at hr
          · simp at hc
        · simp at hc
      · simp at hc
    · simp at hc
  · rename_i t a' vv hop
    cases ho
    unfold cop at hc
    rw [hop] at hc
    change opStore Γ s.inner t (evalC fr vv).cells.toList (fr.get a) = _ at hc
    generalize (evalC fr vv).cells.toList = vs at hc
    unfold opStore at hc
    split at hc
    · rename_i ad had
      split at hc
      · rename_i i hi
        cases hb : Nat.beq vs.length i.size with
        | false => rw [hb] at hc; simp at hc
        | true =>
          rw [hb, cond_true] at hc
          unfold doneC at hc
          split at hc
          · rename_i s2 hw
            cases hc
            unfold CS.write at hw
            split at hw
            · generalize ((Nat.ble _ _ && vs.all oneC) : Bool) = bb at hw
              cases bb with
              | true =>
                cases hw
                exact .inl ⟨by omega, rfl, ad, had, fun e => (by cases e), fun y hy => (by cases hy), fun y hy => ins_nil hy⟩
              | false => cases hw
            · simp at hw
          · simp at hc
      · simp at hc
    · simp at hc
  · rename_i e hop
    split at ho
    · rename_i d hd
      cases ho
      refine .inr ⟨rfl, hd, ?_⟩
      unfold cop at hc
      rw [hop] at hc
      simp only at hc
      unfold opAlloc at hc
      split at hc
      · exact ptr_new hc
      · simp at hc
    · simp at ho
  · rename_i e x hop
    split at ho
    · rename_i d hd
      cases ho
      refine .inr ⟨rfl, hd, ?_⟩
      unfold cop at hc
      rw [hop] at hc
      exact ptr_new hc
    · simp at ho
  · rename_i e l c hop
    split at ho
    · rename_i d hd
      cases ho
      refine .inr ⟨rfl, hd, ?_⟩
      unfold cop at hc
      rw [hop] at hc
      simp only at hc
      unfold opMakeSlice at hc
      split at hc
      · rename_i j l' c' _ _ _
        cases hb : (Nat.ble l' c' && Nat.ble (c' * (j.bytes + 1)) 1000000000 && Nat.blt 0 j.size) with
        | false => rw [hb] at hc; simp at hc
        | true =>
          rw [hb, cond_true] at hc
          exact slice_new hc
      · simp at hc
    · simp at ho
  · rename_i e n parts hop
    split at ho
    · rename_i d hd
      cases ho
      refine .inr ⟨rfl, hd, ?_⟩
      unfold cop at hc
      rw [hop] at hc
      simp only at hc
      unfold opBuildSlice at hc
      split at hc
      · rename_i j _
        cases hb : (Nat.ble (n * j.size) 16777216 && Nat.blt 0 j.size) with
        | false => rw [hb] at hc; simp at hc
        | true =>
          rw [hb, cond_true] at hc
          split at hc
          · exact slice_new hc
          · simp at hc
      · simp at hc
    · simp at ho
  · simp at ho
theorem draw_ls {ops : List Oper} : ∀ {l : List Oper} {fr fr' : Fr} {s s' : CS} {L : List Lg}, drawC P Γ call ops l fr s = some (L, fr', s') → fr.nt ≤ 512 → dstOk fr.nt l = true → ∀ (j : Nat) (o : Oper) (x : Lg) (w : Nat) (a : Nat), l[j]? = some o → L[j]? = some x → lsOf o = some (w, a) → slotOk w a o (l.drop (j + 1)) = true → LsFit fr' w a x
  | [], fr, fr', s, s', L, hc, _, _, j, o, x, w, a, hj, _, _, _ => by simp at hj
  | o :: l, fr, fr', s, s', L, hc, h5, hdo, j, o', x, w, a, hj, hx, ho, hn => by
    have hc0 := hc
    simp only [drawC] at hc
    split at hc
    · rename_i fr1 t h1
      split at hc
      · rename_i logs fr2 s2 h2
        cases hc
        have hfr : ∃ v, fr1 = putC fr o.dst v := by
          unfold stepC at h1
          cases hw : wantedC ops fr o with
          | false =>
            rw [hw] at h1
            simp only [cond_false, Option.some.injEq, Prod.mk.injEq] at h1
            exact ⟨_, h1.1.symm⟩
          | true =>
            rw [hw, cond_true] at h1
            split at h1
            · cases h1; exact ⟨_, rfl⟩
            · simp at h1
        have hnt : fr1.nt = fr.nt := by obtain ⟨v, rfl⟩ := hfr; exact putC_nt _ _ _
        unfold dstOk at hdo
        rw [List.all_cons, Bool.and_eq_true] at hdo
        cases j with
        | zero =>
          simp only [List.getElem?_cons_zero, Option.some.injEq] at hj hx
          subst hj; subst hx
          unfold slotOk at hn
          simp only [Bool.and_eq_true, Bool.or_eq_true] at hn
          obtain ⟨hn1, hn2⟩ := hn
          have hg1 := draw_get h2 (by rw [hnt]; exact h5) (show noDst a l = true by simpa using hn1)
          unfold stepC at h1
          cases hw : wantedC ops fr o with
          | false =>
            rw [hw] at h1
            simp only [cond_false, Option.some.injEq, Prod.mk.injEq] at h1
            rw [← h1.2]
            exact .inl ⟨rfl, rfl, rfl⟩
          | true =>
            rw [hw, cond_true] at h1
            split at h1
            · rename_i v s1 hcop
              cases h1
              rcases ls_fit ho hcop with ⟨q0, q1, ad, q2, q3, q4, q5⟩ | ⟨q0, q1, q2, q3, q4, ad, q5, q6⟩
              · have hn3 : noDst a [o] = true := by
                  rcases hn2 with q | q
                  · have := Nat.eq_of_beq_eq_true q; omega
                  · exact q
                have e : (putC fr o.dst v).get a = fr.get a := get_putC h5 (by unfold noDst at hn3; rw [List.all_cons, Bool.and_eq_true] at hn3; exact hn3.1)
                refine .inr ⟨ad, .inl (by rw [hg1, e]; exact q2), q4, q5, .inl q1.symm, q3, fun _ => q1.symm⟩
              · subst q0
                have e : (putC fr o.dst v).get a = v := by
                  rw [q1]
                  refine Fr.get_put_same v ?_ h5
                  have := hdo.1
                  rw [q1] at this
                  exact blt_iff.1 this
                refine .inr ⟨ad, by rw [hg1, e]; exact q5, fun y hy => ?_, fun y hy => ?_, .inr ⟨q4, q6.symm⟩, fun h => (by cases h), fun h => by omega⟩
                · simp only [q2] at hy; cases hy
                · simp only [q3] at hy; cases hy
            · simp at h1
        | succ j => exact draw_ls h2 (by rw [hnt]; exact h5) (by rw [hnt]; exact hdo.2) j o' x w a (by simpa using hj) (by simpa using hx) ho (by simpa using hn)
      · simp at hc
    · simp at hc
theorem hush_ok {o : Oper} {ρ : Operand → Value} {s s1 : CS} {v : Value} (hm : hushed Γ o = true) (hc : cop P Γ call ρ o s = some (v, s1)) : s1 = s := by
  unfold hushed at hm
  split at hm
  · rename_i args ts hop
    unfold cop at hc
    rw [hop] at hc
    simp only at hc
    unfold opBuiltin at hc
    simp only at hc
    split at hc
    · rename_i x t _ hts
      rw [hts] at hm
      simp only at hm
      unfold opLen at hc
      split at hc
      · rename_i i hi
        rw [hi] at hm
        simp only at hm
        split at hc
        · cases hc; rfl
        · cases hc; rfl
        · cases hc; rfl
        · cases hc; rfl
        · rename_i hd _
          rw [hd] at hm; simp at hm
        · simp at hc
      · simp at hc
    · simp at hc
  · rename_i args ts hop
    unfold cop at hc
    rw [hop] at hc
    exact retC_same hc
  · rename_i args ts hop
    unfold cop at hc
    rw [hop] at hc
    exact retC_same hc
  · simp at hm
theorem draw_hush {ops : List Oper} : ∀ {l : List Oper} {fr fr' : Fr} {s s' : CS} {L : List Lg}, drawC P Γ call ops l fr s = some (L, fr', s') → ∀ (j : Nat) (o : Oper) (x : Lg), l[j]? = some o → L[j]? = some x → hushed Γ o = true → x.rd = [] ∧ x.wr = [] ∧ x.lo = x.hi
  | [], fr, fr', s, s', L, hc, j, o, x, hj, _, _ => by simp at hj
  | o :: l, fr, fr', s, s', L, hc, j, o', x, hj, hx, hm => by
    simp only [drawC] at hc
    split at hc
    · rename_i fr1 t h1
      split at hc
      · rename_i logs fr2 s2 h2
        cases hc
        cases j with
        | zero =>
          simp only [List.getElem?_cons_zero, Option.some.injEq] at hj hx
          subst hj; subst hx
          unfold stepC at h1
          cases hw : wantedC ops fr o with
          | false =>
            rw [hw] at h1
            simp only [cond_false, Option.some.injEq, Prod.mk.injEq] at h1
            rw [← h1.2]
            exact ⟨rfl, rfl, rfl⟩
          | true =>
            rw [hw, cond_true] at h1
            split at h1
            · rename_i v s1 hcop
              cases h1
              rw [hush_ok hm hcop]; exact ⟨rfl, rfl, rfl⟩
            · simp at h1
        | succ j => exact draw_hush h2 j o' x (by simpa using hj) (by simpa using hx) hm
      · simp at hc
    · simp at hc
def FamOf (A : Nat → Prop) (β : Bx) (f : Nat) : Option Nat → Prop
  | some b => ∃ u N', β b = some (.live f u N')
  | none => A f
theorem adr_fam {S : TS} {s : CS} {fr : Fr} (hF : FrOk A β (objAt s.obj) N h fr) (hT : TRel GL A β S s) {a : Nat} {b : Option Nat} (k : adr1 S (h a) b) {ad : Addr} (e : IsAd (fr.get a) ad) : FamOf A β ad.block b := by
  have hv := hF.slot a
  generalize fr.get a = v at hv e
  generalize h a = t at hv k
  cases b with
  | none =>
    cases t with
    | cp l => cases hv with | cp q1 q2 q3 => (rcases e with e | ⟨n, c, e⟩ <;> cases e); exact q1
    | _ => exact k.elim
  | some c =>
    cases t with
    | ptr b' off N' =>
      obtain ⟨rfl, k2⟩ := k
      obtain ⟨z, l, hS⟩ := TS.has_ok k2
      obtain ⟨f, u, q1, q2⟩ := ptr_inv hT hS hv
      subst q1
      rcases e with e | ⟨n, c, e⟩ <;> cases e
      exact ⟨u, N', q2⟩
    | arr b' e' off len cap N' =>
      obtain ⟨rfl, k2⟩ := k
      obtain ⟨z, l, hS⟩ := TS.has_ok k2
      rcases arr_inv hT hS hv with ⟨f, u, q1, q2, _⟩ | ⟨q1, _⟩
      · subst q1
        rcases e with e | ⟨n, c, e⟩ <;> cases e
        exact ⟨u, N', q2⟩
      · subst q1
        rcases e with e | ⟨n, c, e⟩ <;> cases e
    | _ => exact k.elim
theorem ls_calm {S : TS} {s : CS} {fr : Fr} (hF : FrOk A β (objAt s.obj) N h fr) (hT : TRel GL A β S s) {a1 a2 : Nat} {b1 b2 : Option Nat} {w1 w2 : Nat} {x y : Lg} (k1 : adr1 S (h a1) b1) (k2 : adr1 S (h a2) b2) (hw : w2 ≤ 1) (hne : (w1 = 0 ∧ w2 = 0) ∨ optNe b1 b2 = true) (z1 : LsFit fr w1 a1 x) (z2 : LsFit fr w2 a2 y) : clash x y = false := by
  obtain ⟨rx, wx, lo, hi⟩ := x
  obtain ⟨ry, wy, lo', hi'⟩ := y
  simp only [LsFit] at z1 z2
  rcases z1 with ⟨p1, p2, p3⟩ | ⟨ad1, p1, p2, p3, p4, p5, p6⟩
  · exact clash_left p1 p2 p3
  rcases z2 with ⟨q1, q2, _⟩ | ⟨ad2, q1, q2, q3, q4, q5, q6⟩
  · exact clash_right q1 q2
  have g1 := adr_fam hF hT k1 p1
  have g2 := adr_fam hF hT k2 q1
  rcases hne with ⟨rfl, rfl⟩ | hne
  · have e1 := p5 rfl
    have e2 := q5 rfl
    have e3 := p6 (by omega)
    subst e1; subst e2; subst e3
    exact clash_gen (fun f hf => by cases hf) (fun f _ => by simp) (fun f _ => by omega) (fun f hf => by cases hf)
  · have hb : ad1.block ≠ ad2.block := by
      intro hb
      cases b1 with
      | none =>
        cases b2 with
        | none => simp [optNe] at hne
        | some b2 =>
          obtain ⟨u, M, g2⟩ := g2
          exact (hT.dis ad2.block ⟨b2, .inl ⟨u, M, g2⟩⟩).2 (hb ▸ g1)
      | some b1 =>
        obtain ⟨u1, M1, g1⟩ := g1
        cases b2 with
        | none => exact (hT.dis ad1.block ⟨b1, .inl ⟨u1, M1, g1⟩⟩).2 (hb ▸ g2)
        | some b2 =>
          obtain ⟨u2, M2, g2⟩ := g2
          have := hT.inj b1 b2 _ _ ad1.block g1 g2 rfl (by rw [hb]; rfl)
          subst this
          simp [optNe] at hne
    refine clash_gen (fun f hf => ⟨fun hf2 => ?_, fun hf2 => ?_⟩) (fun f hf hf2 => ?_) (fun f hf => ?_) (fun f hf => ?_)
    · exact hb ((p3 f hf).symm.trans (q2 f hf2))
    · exact hb ((p3 f hf).symm.trans (q3 f hf2))
    · exact hb ((p2 f hf).symm.trans (q3 f hf2))
    · have := q2 f hf; rcases p4 with p4 | ⟨p4, p7⟩ <;> omega
    · have := q3 f hf; rcases p4 with p4 | ⟨p4, p7⟩ <;> omega
theorem TW.drawS (hE : EnvOk P Γ) {id : Nat} {ops : Array Oper} {Q : Exit → (Nat → T) → TS → Prop} (k : Nat) (bx : List (Nat × Option Nat)) (outsP : List T) (own : List Nat) (outs : List (T × TS)) {h1 : Nat → T} {ob1 ob2 : Prop} (hd : dstOk N ops.toList = true) (hoS : drawOkS Γ k bx ops.toList = true)
    (hp : runP P Γ GL ops.toList (ops.toList.take k) h S outsP = some (ob1, h1)) (hob1 : ob1) (hr : runT P Γ GL own ops.toList (ops.toList.drop k) h1 S outs = some (ob2, h', S')) (hob2 : ob2) (hbx : AddrOk bx h' S') (hq : Q .normal h' S') : TW P Γ GL N (.region id ops true) h S Q := fun A β fr s hF hT => by
  have hok : drawOk ops.toList.length ops.toList = true := by
    unfold drawOkS at hoS
    simp only [Bool.and_eq_true] at hoS
    exact hoS.1
  have hsplit : ops.toList = ops.toList.take k ++ ops.toList.drop k := (List.take_append_drop k _).symm
  have hdd : dstOk N (ops.toList.take k) = true ∧ dstOk N (ops.toList.drop k) = true := by
    unfold dstOk at hd ⊢
    rw [hsplit, List.all_append, Bool.and_eq_true] at hd
    exact hd
  have I0 : PreInv GL ops.toList A β S s N [] h fr s := by
    refine ⟨hF.nt, hF.le, hT, fun t => ⟨0, (hF.slot t).mono (fun f hf => .inl hf) (fun _ _ => rfl) (Bx.le_refl _), fun j o _ _ _ m hm => by simp at hm⟩, fun k x hx => by simp at hx, fun k m x y _ hx => by simp at hx, fun f hf => (hT.dis f hf).1, hT.alt, ?_, hT.le⟩
    exact ⟨Can.refl _, fun _ h => h, fun _ h => .inl h, fun _ _ => rfl, fun _ h => .inl h, fun _ h => h⟩
  obtain ⟨M1, fr1, s1, d1, I1, m1⟩ := pre_ok hE hok I0 (fun j o hj => by
    rw [List.length_nil, Nat.zero_add]
    rw [List.getElem?_take] at hj
    split at hj
    · exact hj
    · simp at hj) hdd.1 hp hob1
  rw [List.nil_append] at I1
  -- behind the first part all may lean on all
  let D : Nat := 2 ^ M1.length - 1
  have hDall : ∀ m, m < M1.length → Nat.testBit D m = true := fun m hm => by
    show Nat.testBit (2 ^ M1.length - 1) m = true
    rw [Nat.testBit_two_pow_sub_one]; exact decide_eq_true hm
  have hT1 : TRel GL (SupL A M1 D) β S s1 := by
    refine I1.rel.more _ (fun f hf => .inl hf) (fun f hf => ?_) (fun f hf ho => ?_)
    · rcases hf with q | ⟨m, x, _, q2, _, q4⟩
      · exact I1.rel.alt f q
      · have := (I1.log m x q2).2.2.1; omega
    · rcases hf with q | ⟨m, x, _, q2, q3, q4⟩
      · exact (I1.rel.dis f ho).2 q
      · have := (I1.log m x q2).1
        have := I1.own f ho
        omega
  have hF1 : FrOk (SupL A M1 D) β (objAt s1.obj) N h1 fr1 := ⟨I1.nt, I1.le, fun t => by
    obtain ⟨E, e1, _⟩ := I1.slot t
    exact e1.mono (fun f hf => SupL.sub (fun m hm _ => hDall m hm) hf) (fun _ _ => rfl) (Bx.le_refl _)⟩
  have hS1 : Stp A β s (SupL A M1 D) β s1 := by
    refine ⟨I1.calm.can, fun f hf => .inl hf, fun f hf => ?_, fun f hf => .inl hf, fun f hf _ => I1.calm.keep f hf, Bx.le_refl _, I1.calm.rd, fun x hx => .inl (I1.calm.wr x hx)⟩
    rcases hf with q | ⟨m, x, _, q2, q3, _⟩
    · exact .inl q
    · have := (I1.log m x q2).1
      exact .inr (.inl (by omega))
  obtain ⟨M2, fr2, s2, d2, L2⟩ := post_ok hE hdd.2 hF1 hT1 hr hob2
  have hdraw := drawC_append d1 d2
  rw [← hsplit] at hdraw
  obtain ⟨f1, f2⟩ := draw_fit hdraw
  have L2' := L2
  obtain ⟨A2, β2, hF2, hT2, _⟩ := L2'
  refine W.draw hdraw ?_ ⟨h', S', Left.trans (h' := h) (fr' := fr) hT.le hS1 L2, hq⟩
  refine calm_ms rfl (calmAll_of fun i j x y hij _ hx hy => ?_)
  simp only [List.nil_append] at hx hy
  have hjl : j < ops.toList.length := by rw [← f1]; exact (List.getElem?_eq_some_iff.1 hy).1
  have ho1 : ops.toList[i]? = some (ops.toList[i]'(by omega)) := List.getElem?_eq_getElem _
  have ho2 : ops.toList[j]? = some (ops.toList[j]'hjl) := List.getElem?_eq_getElem _
  by_cases hkj : k ≤ j
  · rcases drawOkS_late hoS hij hkj ho1 ho2 with q | q | q | q | q | q
    · exact .inl q
    · obtain ⟨a, b, c⟩ := (f2 i _ x ho1 hx).1 q
      exact .inr (clash_left a b c)
    · obtain ⟨a, b⟩ := (f2 j _ y ho2 hy).2 q
      exact .inr (clash_right a b)
    · obtain ⟨a, b, c⟩ := draw_hush hdraw i _ x ho1 hx q
      exact .inr (clash_left a b c)
    · obtain ⟨a, b, c⟩ := draw_hush hdraw j _ y ho2 hy q
      exact .inr (clash_right a b)
    · obtain ⟨w1, a1, b1, w2, a2, b2, g1, g2, g3, g4, g5, g6, g7, g8⟩ := free_inv q
      have z1 := draw_ls hdraw (by rw [hF.nt]; exact hF.le) (by rw [hF.nt]; exact hd) i _ x w1 a1 ho1 hx g1 g2
      have z2 := draw_ls hdraw (by rw [hF.nt]; exact hF.le) (by rw [hF.nt]; exact hd) j _ y w2 a2 ho2 hy g4 g5
      exact .inr (ls_calm hF2 hT2 (addr_get hbx g3) (addr_get hbx g6) g7 g8 z1 z2)
  · have hjM : j < M1.length := by rw [m1, List.length_take]; omega
    rw [List.getElem?_append_left (by omega)] at hx
    rw [List.getElem?_append_left hjM] at hy
    by_cases hbit : Nat.testBit (nth 0 (masks ops.toList []) j) i = true
    · exact .inl hbit
    · right
      obtain ⟨x1, x2, x3, x4, x5⟩ := I1.log i x hx
      obtain ⟨y1, y2, y3, y4, y5⟩ := I1.log j y hy
      obtain ⟨rx, wx, lo, hi⟩ := x
      obtain ⟨ry, wy, lo', hi'⟩ := y
      simp only at x1 x2 x3 x4 x5 y1 y2 y3 y4 y5
      subst x4; subst y4
      refine clash_gen (fun f hf => by simp at hf) (fun f _ => by simp) (fun f hf => ?_) (fun f hf => by simp at hf)
      obtain ⟨g1, g2⟩ := y5 f hf
      rcases g2 with (g2 | ⟨m, z, g3, g4, g5, g6⟩) | g2
      · have := I1.base f g2; omega
      · by_cases hmi : m = i
        · subst hmi; exact absurd g3 hbit
        · by_cases hlt : m < i
          · have := I1.apart m i z _ hlt g4 hx; simp only at this; omega
          · have := I1.apart i m _ z (by omega) hx g4; simp only at this; omega
      · have := I1.own f g2; omega
end
end Go.Proofs.Ytfalnphlgfoflaa
