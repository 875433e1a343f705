/- Part 6 of the proof of TableFailsOver (several texts in one; no further condition). -/
import Derived.Test.YtjgbkegkcbcjaaaZD
import Derived.Test.YtjgbkegkcbcjaaaZE
import Derived.KernelRfl
set_option linter.unusedSimpArgs false
set_option linter.unusedVariables false
set_option linter.unusedSectionVars false
namespace Go.Proofs.Ytjgbkegkcbcjaaa
open Go Go.RowKit
def alcO (cf : Nat → Option Nat) (o : Oper) : Option Nat := match o.op with
  | .move _ => some 0
  | .assign _ => some 0
  | .pick _ _ _ => some 0
  | .alloc _ => some 1
  | .box _ _ => some 1
  | .load _ _ => some 0
  | .store _ _ _ => some 0
  | .fieldAddr _ _ _ => some 0
  | .indexAddr _ _ _ => some 0
  | .binOp _ _ _ _ _ => some 0
  | .unOp _ _ _ => some 0
  | .extract _ _ => some 0
  | .build _ _ => some 0
  | .call c => (match c.callee with | .value (.func f) => cf f | _ => none)
  | _ => none
def addO : Option Nat → Option Nat → Option Nat
  | some a, some b => some (a + b)
  | _, _ => none
theorem addO_some {x y : Option Nat} {k : Nat} (h : addO x y = some k) : ∃ a b, x = some a ∧ y = some b ∧ k = a + b := by
  cases x <;> cases y <;> simp [addO] at h
  exact ⟨_, _, rfl, rfl, h.symm⟩
def alcL (cf : Nat → Option Nat) : List Oper → Option Nat
  | [] => some 0
  | o :: l => addO (alcO cf o) (alcL cf l)
def alcC (cf : Nat → Option Nat) : Code → Option Nat
  | .region _ ops _ => alcL cf ops.toList
  | .seq a b => addO (alcC cf a) (alcC cf b)
  | .cond _ a b => addO (alcC cf a) (alcC cf b)
  | .block _ b => alcC cf b
  | .loop b => (match alcC cf b with | some 0 => some 0 | _ => none)
  | .scope b => alcC cf b
  | .skip => some 0
  | .label _ => some 0
  | .exit _ => some 0
  | .ret => some 0
  | _ => none
section
variable {P : Program} {Γ : Env} {s s' : CS} {v : Value}
theorem retC_n {x : Option Value} (h : retC s x = some (v, s')) : s'.n = s.n := by rw [(retC_some h).2]
theorem orPure_n {ρ : Operand → Value} {o : Oper} {x : Option Value} (h : orPure P ρ o s x = some (v, s')) : s'.n = s.n := by
  unfold orPure at h
  cases x with
  | some y => simp only [Option.some.injEq, Prod.mk.injEq] at h; rw [← h.2]
  | none => exact retC_n h
theorem newRow_n {a : Addr} {tag : Nat} {cs : List Value} (h : s.newRow tag cs = some (a, s')) : s'.n = s.n + 1 := by
  unfold CS.newRow at h
  obtain ⟨_, h⟩ := sel_some h
  simp only [Option.some.injEq, Prod.mk.injEq] at h
  rw [← h.2]
theorem ptr_n {tag : Nat} {cs : List Value} (h : ptrC (s.newRow tag cs) = some (v, s')) : s'.n = s.n + 1 := by
  obtain ⟨a, h1, _⟩ := ptrC_some h
  exact newRow_n h1
theorem readRow_n {a : Addr} {cs : List Value} (h : s.readRow a = some (cs, s')) : s'.n = s.n := by
  unfold CS.readRow at h
  split at h
  · simp only [Option.some.injEq, Prod.mk.injEq] at h; rw [← h.2]
  · simp at h
theorem loadVar_n {i : TI} {a : Addr} (h : s.loadVar i a = some (v, s')) : s'.n = s.n := by
  unfold CS.loadVar at h
  cases hq : s.readRow a with
  | none => rw [hq] at h; simp at h
  | some p =>
    obtain ⟨cs, s1⟩ := p
    rw [hq] at h
    simp only at h
    split at h
    · simp only [Option.some.injEq, Prod.mk.injEq] at h
      rw [← h.2]
      exact readRow_n hq
    · simp at h
theorem write_n {a : Addr} {vs : List Value} (h : s.write a vs = some s') : s'.n = s.n := by
  unfold CS.write at h
  split at h
  · obtain ⟨_, h⟩ := sel_some h
    simp only [Option.some.injEq] at h
    rw [← h]
  · simp at h
theorem some_n {x : Value} {t : CS} (h : some (x, t) = some (v, s')) (ht : t.n = s.n) : s'.n = s.n := by
  simp only [Option.some.injEq, Prod.mk.injEq] at h; rw [← h.2]; exact ht
theorem cop_alc {cf : Nat → Option Nat} {call : CallC} (hcall : ∀ f k args s v s', cf f = some k → call f args s = some (v, s') → s'.n ≤ s.n + k) {fr : Fr} {o : Oper} {k : Nat} (ho : alcO cf o = some k) (h : cop P Γ call (evalC fr) o s = some (v, s')) : s'.n ≤ s.n + k := by
  obtain ⟨d, op, ty, pos, e, g⟩ := o
  unfold alcO at ho
  simp only at ho
  split at ho
  case h_1 => cases ho; rw [cop_move] at h; exact Nat.le_of_eq (some_n h rfl)
  case h_2 => cases ho; rw [cop_assign] at h; exact Nat.le_of_eq (some_n h rfl)
  case h_3 =>
    cases ho; rw [cop_pick] at h; unfold opPick at h; split at h
    · exact Nat.le_of_eq (some_n h rfl)
    · simp at h
  case h_4 =>
    cases ho; rw [cop_alloc] at h; unfold opAlloc at h; split at h
    · exact Nat.le_of_eq (ptr_n h)
    · simp at h
  case h_5 => cases ho; rw [cop_box] at h; exact Nat.le_of_eq (ptr_n h)
  case h_6 =>
    cases ho; rw [cop_load] at h; unfold opLoad at h; split at h
    · split at h
      · exact Nat.le_of_eq (loadVar_n h)
      · simp at h
    · simp at h
  case h_7 =>
    cases ho; rw [cop_store] at h; unfold opStore at h; split at h
    · split at h
      · obtain ⟨_, h⟩ := cond_some h
        unfold doneC at h
        split at h
        · rename_i hw; simp only [Option.some.injEq, Prod.mk.injEq] at h; rw [← h.2]; exact Nat.le_of_eq (write_n hw)
        · simp at h
      · simp at h
    · simp at h
  case h_8 =>
    cases ho; rw [cop_fieldAddr] at h; unfold opFieldAddr at h; split at h
    · split at h
      · split at h
        · split at h
          · cases hb : Nat.beq _ 0 <;> rw [hb] at h <;> simp only [cond_true, cond_false] at h
            · exact Nat.le_of_eq (some_n h rfl)
            · simp at h
          · simp at h
        · simp at h
      · simp at h
    · simp at h
  case h_9 =>
    cases ho; rw [cop_indexAddr] at h; unfold opIndexAddr at h; split at h
    · have hA : ∀ (z k n : Nat) (a : Addr), stepA s z k n a = some (v, s') → s'.n = s.n := by
        intro z k n a h
        unfold stepA at h
        obtain ⟨_, h⟩ := cond_some h
        exact some_n h rfl
      split at h
      · split at h
        · split at h
          · exact Nat.le_of_eq (hA _ _ _ _ h)
          · simp at h
        · simp at h
      · split at h
        · split at h
          · exact Nat.le_of_eq (hA _ _ _ _ h)
          · simp at h
        · simp at h
      · simp at h
    · simp at h
  case h_10 =>
    cases ho; rw [cop_bin] at h; unfold opBin at h; split at h
    · exact Nat.le_of_eq (some_n h rfl)
    · exact Nat.le_of_eq (orPure_n h)
  case h_11 => cases ho; rw [cop_un] at h; exact Nat.le_of_eq (orPure_n h)
  case h_12 =>
    cases ho; rw [cop_extract] at h; unfold opExtract at h; split at h
    · exact Nat.le_of_eq (retC_n h)
    · simp at h
  case h_13 =>
    cases ho; rw [cop_build] at h; unfold opBuild at h
    have hA : ∀ (c : Option (List Value)), aggC s c = some (v, s') → s'.n = s.n := by
      intro c h
      obtain ⟨_, _, _, rfl⟩ := aggC_some h
      rfl
    split at h
    · split at h
      · obtain ⟨_, h⟩ := sel_some h
        exact Nat.le_of_eq (hA _ h)
      · split at h
        · exact Nat.le_of_eq (hA _ h)
        · simp at h
      · simp at h
    · simp at h
  case h_14 =>
    rename_i c
    obtain ⟨ce, args, tys⟩ := c
    cases ce with
    | value x =>
      cases x with
      | func f =>
        simp only at ho
        rw [cop_call] at h
        exact hcall _ _ _ _ _ _ ho h
      | _ => simp at ho
    | _ => simp at ho
  case h_15 => simp at ho
theorem stepC_alc {cf : Nat → Option Nat} {call : CallC} (hcall : ∀ f k args s v s', cf f = some k → call f args s = some (v, s') → s'.n ≤ s.n + k) {ops : List Oper} {fr fr' : Fr} {o : Oper} {k : Nat} (ho : alcO cf o = some k) (h : stepC P Γ call ops o fr s = some (fr', s')) : s'.n ≤ s.n + k := by
  unfold stepC at h
  cases hw : wantedC ops fr o with
  | true =>
    rw [hw] at h
    simp only [cond_true] at h
    split at h
    · rename_i hq
      simp only [Option.some.injEq, Prod.mk.injEq] at h
      rw [← h.2]
      exact cop_alc hcall ho hq
    · simp at h
  | false =>
    rw [hw] at h
    simp only [cond_false, Option.some.injEq, Prod.mk.injEq] at h
    rw [← h.2]; omega
theorem runC_alc {cf : Nat → Option Nat} {call : CallC} (hcall : ∀ f k args s v s', cf f = some k → call f args s = some (v, s') → s'.n ≤ s.n + k) {ops : List Oper} : ∀ (l : List Oper) (fr fr' : Fr) (s s' : CS) (k : Nat), alcL cf l = some k → runC P Γ call ops l fr s = some (fr', s') → s'.n ≤ s.n + k
  | [], fr, fr', s, s', k, hk, h => by
    simp only [runC, Option.some.injEq, Prod.mk.injEq] at h; rw [← h.2]; omega
  | o :: l, fr, fr', s, s', k, hk, h => by
    obtain ⟨a, b, h1, h2, rfl⟩ := addO_some hk
    simp only [runC] at h
    split at h
    · rename_i hq
      have q1 := stepC_alc hcall h1 hq
      have q2 := runC_alc hcall l _ _ _ _ b h2 h
      omega
    · simp at h
theorem drawC_alc {cf : Nat → Option Nat} {call : CallC} (hcall : ∀ f k args s v s', cf f = some k → call f args s = some (v, s') → s'.n ≤ s.n + k) {ops : List Oper} : ∀ (l : List Oper) (fr fr' : Fr) (s s' : CS) (k : Nat) (lg : List Lg), alcL cf l = some k → drawC P Γ call ops l fr s = some (lg, fr', s') → s'.n ≤ s.n + k
  | [], fr, fr', s, s', k, lg, hk, h => by
    simp only [drawC, Option.some.injEq, Prod.mk.injEq] at h; rw [← h.2.2]; omega
  | o :: l, fr, fr', s, s', k, lg, hk, h => by
    obtain ⟨a, b, h1, h2, rfl⟩ := addO_some hk
    simp only [drawC] at h
    split at h
    · rename_i fr1 t hq
      split at h
      · rename_i hq2
        simp only [Option.some.injEq, Prod.mk.injEq] at h
        obtain ⟨_, _, rfl⟩ := h
        have q1 := stepC_alc hcall h1 hq
        have q2 := drawC_alc hcall l _ _ _ _ b _ h2 hq2
        have e1 : (CS.inner s).n = s.n := rfl
        have e2 : (CS.outer s t).n = t.n := rfl
        omega
      · simp at h
    · simp at h
theorem cm_alc {cf : Nat → Option Nat} (hcall : ∀ n f k args s v s', cf f = some k → callC P Γ n f args s = some (v, s') → s'.n ≤ s.n + k) : ∀ (n : Nat) (c : Code) (fr fr' : Fr) (s s' : CS) (e : Exit) (k : Nat), alcC cf c = some k → cm P Γ n c fr s = some (e, fr', s') → s'.n ≤ s.n + k := by
  intro n
  induction n with
  | zero => intro c fr fr' s s' e k hk h; simp [cm] at h
  | succ n ih =>
    intro c fr fr' s s' e k hk h
    cases c with
    | skip => simp only [cm, Option.some.injEq, Prod.mk.injEq] at h; rw [← h.2.2]; omega
    | label lb => simp only [cm, Option.some.injEq, Prod.mk.injEq] at h; rw [← h.2.2]; omega
    | exit id => simp only [cm, Option.some.injEq, Prod.mk.injEq] at h; rw [← h.2.2]; omega
    | ret => simp only [cm, Option.some.injEq, Prod.mk.injEq] at h; rw [← h.2.2]; omega
    | region id ops draw =>
      have h' : (bif draw then match drawC P Γ (callC P Γ n) ops.toList ops.toList fr s with
          | some (logs, fr, t) => bif calm s.n ops.toList logs then some (Exit.normal, fr, t) else none
          | none => none
        else match runC P Γ (callC P Γ n) ops.toList ops.toList fr s with
          | some (fr, s) => some (Exit.normal, fr, s)
          | none => none) = some (e, fr', s') := h
      cases draw with
      | true =>
        simp only [cond_true] at h'
        split at h'
        · rename_i hd
          obtain ⟨_, h'⟩ := cond_some h'
          simp only [Option.some.injEq, Prod.mk.injEq] at h'
          obtain ⟨rfl, rfl, rfl⟩ := h'
          exact drawC_alc (hcall n) _ _ _ _ _ _ _ hk hd
        · simp at h'
      | false =>
        simp only [cond_false] at h'
        split at h'
        · rename_i hd
          simp only [Option.some.injEq, Prod.mk.injEq] at h'
          obtain ⟨rfl, rfl, rfl⟩ := h'
          exact runC_alc (hcall n) _ _ _ _ _ _ hk hd
        · simp at h'
    | seq a b =>
      obtain ⟨x, y, h1, h2, rfl⟩ := addO_some hk
      simp only [cm] at h
      split at h
      · rename_i hq
        have q1 := ih _ _ _ _ _ _ _ h1 hq
        have q2 := ih _ _ _ _ _ _ _ h2 h
        omega
      · have q1 := ih _ _ _ _ _ _ _ h1 h
        omega
    | cond c t e' =>
      obtain ⟨x, y, h1, h2, rfl⟩ := addO_some hk
      simp only [cm] at h
      split at h
      · rename_i b _
        cases b with
        | true => have q1 := ih _ _ _ _ _ _ _ h1 h; omega
        | false => have q1 := ih _ _ _ _ _ _ _ h2 h; omega
      · simp at h
    | block id b =>
      simp only [cm] at h
      split at h
      · rename_i hq
        simp only [Option.some.injEq, Prod.mk.injEq] at h
        obtain ⟨_, _, rfl⟩ := h
        exact ih b _ _ _ _ _ _ hk hq
      · exact ih b _ _ _ _ _ _ hk h
    | loop b =>
      have hk2 := hk
      simp only [alcC] at hk
      split at hk
      · rename_i hb
        cases hk
        simp only [cm] at h
        split at h
        · rename_i hq
          have q1 := ih _ _ _ _ _ _ _ hb hq
          have q2 := ih _ _ _ _ _ _ _ hk2 h
          omega
        · exact ih _ _ _ _ _ _ _ hb h
      · simp at hk
    | scope b =>
      simp only [cm] at h
      exact ih b _ _ _ _ _ _ hk h
    | _ => simp [alcC] at hk
theorem resC_n {fr : Fr} : ∀ (l : List ResultVar) (s s' : CS) (vs : List Value), resC Γ fr s l = some (vs, s') → s'.n = s.n
  | [], s, s', vs, h => by simp only [resC, Option.some.injEq, Prod.mk.injEq] at h; rw [← h.2]
  | .tmp t :: l, s, s', vs, h => by
    simp only [resC] at h
    split at h
    · rename_i hq
      simp only [Option.some.injEq, Prod.mk.injEq] at h
      rw [← h.2]; exact resC_n l _ _ _ hq
    · simp at h
  | .cell a t :: l, s, s', vs, h => by
    simp only [resC] at h
    split at h
    · split at h
      · rename_i hq
        split at h
        · rename_i hq2
          simp only [Option.some.injEq, Prod.mk.injEq] at h
          rw [← h.2, resC_n l _ _ _ hq2, loadVar_n hq]
        · simp at h
      · simp at h
    · simp at h
theorem callC_alc {cf : Nat → Option Nat} (hcall : ∀ n f k args s v s', cf f = some k → callC P Γ n f args s = some (v, s') → s'.n ≤ s.n + k) {f : Nat} {fn : Func} {body : Code} (hax : Γ.ax f = none) (hfn : Γ.fn.at f = some fn) (hb : fn.body = some body) {k : Nat} (hk : alcC cf body = some k) {n : Nat} {args : List Value} (h : callC P Γ n f args s = some (v, s')) : s'.n ≤ s.n + k := by
  unfold callC at h
  simp only [hax, hfn, hb] at h
  split at h
  · rename_i hq
    obtain ⟨_, hq⟩ := sel_some hq
    split at h
    · rename_i hr
      simp only [Option.some.injEq, Prod.mk.injEq] at h
      have q1 := cm_alc hcall _ _ _ _ _ _ _ _ hk hq
      have q2 := resC_n _ _ _ _ hr
      rw [← h.2, q2]; exact q1
    · simp at h
  · rename_i hq
    obtain ⟨_, hq⟩ := sel_some hq
    split at h
    · rename_i hr
      simp only [Option.some.injEq, Prod.mk.injEq] at h
      have q1 := cm_alc hcall _ _ _ _ _ _ _ _ hk hq
      have q2 := resC_n _ _ _ _ hr
      rw [← h.2, q2]; exact q1
    · simp at h
  · simp at h
theorem ax_pure {G L : List Nat} {ax : Axs} (hm : P.follows .mixedOrders = true) (hL : funcsOk P G L = true) (hx : AxsOk P G L ax) {f : Nat} {fn : Func} {body : Code} (hax : ax f = none) (hfn : (envAx P L ax).fn.at f = some fn) (hb : fn.body = some body)
    {cf : Nat → Option Nat} (hcall : ∀ n f k args s v s', cf f = some k → callC P (envAx P L ax) n f args s = some (v, s') → s'.n ≤ s.n + k) {K : Nat} (hk : alcC cf body = some K) {dec : List Value → Option Value}
    (hd : ∀ args v, dec args = some v → ∃ ts t, Pure P (envAx P L ax) [] f ts t ∧ (∀ A β g, VL A β g ts args) ∧ (∀ A β g v', VT A β g t v' → v' = v) ∧ plainV 3 v = true) :
    AxOk P G f (fun args s => match dec args with | some v => some (v, { s with n := s.n + K }) | none => none) := by
  refine ax_of hm hL hx hax hfn hb fun args s v s' hh hI => ?_
  cases hq : dec args with
  | none => simp only [hq] at hh; cases hh
  | some v1 =>
    simp only [hq] at hh
    simp only [Option.some.injEq, Prod.mk.injEq] at hh
    obtain ⟨rfl, rfl⟩ := hh
    obtain ⟨ts, t, k1, k2, k3, k4⟩ := hd args v1 hq
    have hT : TRel [] (fun _ => False) bx0 ts0 s.fn :=
      ⟨⟨_, rfl⟩, hI.fn, fun f hf => hf.elim, fun f hf => absurd hf own_bx0, fun b b' l l' f hb => by simp [bx0] at hb, fun b _ => rfl, fun b z N l hb => by simp [ts0] at hb, fun b l hb => by simp [ts0] at hb, fun x hx => by simp at hx⟩
    obtain ⟨v2, s1, A', e1, e2, e3, e4⟩ := k1.call ts0 _ _ _ args hT (k2 _ _ _)
    have ev := k3 _ _ _ _ e3
    subst ev
    refine ⟨k4, rfl, rfl, rfl, fun x h => h, Nat.le_add_right _ _, s1, e1, ?_, fun x h => ?_, fun x h => e4.wr x h, fun f hf => e4.keep f hf⟩
    · obtain ⟨n, hn⟩ := callR_some e1
      exact callC_alc (s := s.fn) hcall hax hfn hb hk hn
    · rcases e4.rd x h with q | ⟨_, q | q⟩
      · exact q
      · exact q.elim
      · exact absurd q own_bx0
noncomputable def axPure (K : Nat) (dec : List Value → Option Value) : List Value → CS → Option (Value × CS) := fun args s => match dec args with | some v => some (v, { s with n := s.n + K }) | none => none
theorem calls_trueA {L : List Nat} {ax : Axs} (hm : P.follows .mixedOrders = true) (hL : funcsOk P [] L = true) (hx : AxsOk P [] L ax) {f fuel : Nat} {fn : Func} {body : Code} (hfn : (envAx P L ax).fn.at f = some fn) (hb : fn.body = some body) (h : callsTrue P (envAx P L ax) f fuel = true) (w : World) :
    Calls P f #[] w fun e w' => e = .returned (.bool true) ∧ Below w.heap.size w w' := by
  unfold callsTrue at h
  split at h
  · rename_i s' hq
    have hI : CInv cs0 := ⟨fun f _ => cs0_obj f, fun f p hp => by rw [cs0_obj] at hp; simp [famNone] at hp, Nat.le_refl _⟩
    have hr : Rel (fun _ _ => none) (fun _ => True) cs0 w := ⟨fun _ _ _ _ _ _ _ _ _ h => by simp at h, fun _ _ _ _ _ h => by simp at h, fun f _ => by rw [cs0_obj]; exact FamAt.ofNone, hI.none, hI.vers⟩
    have hcall := call_ok hx.can hx.its hx.call hL (code_ok hm hx.can hx.its hx.call hL fuel).1 f [] #[] cs0 _ s' w (fun _ _ => none) (fun _ => True) hq trivial hr (fun _ _ => trivial) (fun _ _ _ => rfl) hI (fun g hg => by simp [has] at hg)
    obtain ⟨x, h1, h2⟩ := hcall
    have he := enter_ok (ax := ax) hL hfn hb #[] w
    rw [he] at h1
    have hx : x = f := by simp_all
    subst hx
    refine h2.mono ?_
    rintro e w' ⟨σ', v', rfl, k1, k2, k3⟩
    exact ⟨by rw [plain_eq 3 rfl k1], k3.st.1, k3.st.2.1, k3.st.2.2, k3.size, fun k hk => k3.frame k hk fun g u o z hs => by simp at hs⟩
  · simp at h
end
end Go.Proofs.Ytjgbkegkcbcjaaa
namespace Go.Proofs.Ytjgbkegkcbcjaaa
open Go Go.RowKit
structure NoAx (ax : Axs) : Prop where
  no : ∀ f, Nat.beq f 9 = false → ax f = none
instance {ax : Axs} : Coe (Plain ax) (NoAx ax) := ⟨fun h => ⟨h.no⟩⟩
end Go.Proofs.Ytjgbkegkcbcjaaa
namespace Go.Proofs.Ytjgbkegkcbcjaaa
open Go Go.RowKit
set_option maxRecDepth 100000
def sbits_Overlap_L0 (k : Nat) (p : Pat) (q : Pat) : Nat → Int → Option (Bool ⊕ Unit)
 | 0, _ => none
 | m + 1, i => (if i < 10 then (if (0 : Int) ≤ i ∧ i < (10 : Int) then (if (iAnd .i64 (iAnd .i64 (iXor .i64 (gx p.bits.l i) (gx q.bits.l i)) (gx p.mask.l i)) (gx q.mask.l i)) ≠ 0 then some (.inl false) else sbits_Overlap_L0 k p q m (IntKind.i64.wrap (i + 1))) else none) else some (.inr ()))
def sbits_Overlap (k : Nat) (p : Pat) (q : Pat) : Option Bool := ((sbits_Overlap_L0 k p q k 0 : Option (Bool ⊕ Unit)).bind fun o => Sum.elim (fun r => some r) (fun s_ => some true) o)
set_option maxHeartbeats 8000000 in
theorem sbits_Overlap_ok (ax : Axs) (hx : NoAx ax) (k : Nat) (p : Pat) (q : Pat) (v : Bool) (H : sbits_Overlap k p q = some v) : Pure Try.prog (EE ax) [] 73 [ePat p, ePat q] (.bool v) := by
 rw [sbits_Overlap] at H
 refine en [.tmp 4] 30 [0, 1] (hx.no _ (by decide)) (fn73 ax) ?_
 intro h hh
 repeat apply TW.seq
 refine rk [2, 3] [] hh ?_
 clear hh h
 intro h hh
 repeat apply TW.seq
 refine rk [2, 3, 6] [] hh ?_
 clear hh h
 intro h hh
 obtain ⟨o, H1, H⟩ := bsome H
 repeat apply TW.seq
 refine cu [] 2 (fun h bs => ∃ s_ : Unit, o = .inr s_ ∧ (True) ∧ bs = [.cells true 20 (p.mask.l.map (T.int .i64) ++ (p.bits.l.map (T.int .i64))), .cells true 20 (q.mask.l.map (T.int .i64) ++ (q.bits.l.map (T.int .i64)))]) ?_ ?_
 ·skip
  repeat apply TW.seq
  apply TW.block
  repeat apply TW.seq
  refine TW.loopT [2, 3, 6] (fun m h bs => ∃ (i : Int), sbits_Overlap_L0 k p q m i = some o ∧ (h 2 = .ptr 0 0 20 ∧ h 3 = .ptr 1 0 20 ∧ h 6 = .int .i64 i) ∧ bs = [.cells true 20 (p.mask.l.map (T.int .i64) ++ (p.bits.l.map (T.int .i64))), .cells true 20 (q.mask.l.map (T.int .i64) ++ (q.bits.l.map (T.int .i64)))]) ?_ k _ _ ?_
  rotate_left
  ·exact ⟨0, H1, kq hh, rfl⟩
  clear hh h H1
  rintro m h bs ⟨i, H1, hh, rfl⟩
  rcases m with _ | m
  ·rw [sbits_Overlap_L0] at H1; cases H1
  rw [sbits_Overlap_L0] at H1
  repeat apply TW.seq
  refine rk [2, 3, 6, 7] [] hh ?_
  clear hh h
  intro h hh
  rcases isp H1 with ⟨c1, H1⟩ | ⟨c1, H1⟩
  rotate_left
  ·skip
   repeat apply TW.seq
   refine cf (f2 hh (decide_eq_false c1)) ?_
   refine xk ?_
   cases H1
   exact ce hh ⟨_, rfl, kq hh, rfl⟩
  repeat apply TW.seq
  refine ct (f2 hh (decide_eq_true c1)) ?_
  repeat apply TW.seq
  refine sk ?_
  repeat apply TW.seq
  apply TW.block
  repeat apply TW.seq
  refine rk [2, 3, 5, 6] [] hh ?_
  clear hh h
  intro h hh
  obtain ⟨g2, H1⟩ := isg H1
  repeat apply TW.seq
  refine dk 18 [2, 3, 6, 28] [] [] [] (f3 hh (cellAt (k := .i64) (off := 10) (L := (p.mask.l.map (T.int .i64) ++ (p.bits.l.map (T.int .i64)))) (r := []) p.bits g2) (f3 (cellAt (k := .i64) (off := 10) (L := (q.mask.l.map (T.int .i64) ++ (q.bits.l.map (T.int .i64)))) (r := []) q.bits g2) (cellAt0 (k := .i64) (L := (p.mask.l.map (T.int .i64) ++ (p.bits.l.map (T.int .i64)))) (r := (p.bits.l.map (T.int .i64))) p.mask g2) (cellAt0 (k := .i64) (L := (q.mask.l.map (T.int .i64) ++ (q.bits.l.map (T.int .i64)))) (r := (q.bits.l.map (T.int .i64))) q.mask g2))) trivial trivial ?_
  clear hh h
  intro h hh
  rcases isp H1 with ⟨c3, H1⟩ | ⟨c3, H1⟩
  rotate_left
  ·skip
   repeat apply TW.seq
   refine cf (f2 hh (decide_eq_false c3)) ?_
   repeat apply TW.seq
   refine sk ?_
   repeat apply TW.seq
   refine rk [2, 3, 6] [] hh ?_
   clear hh h
   intro h hh
   exact rd m hh ⟨(IntKind.i64.wrap (i + 1)), H1, kq hh, rfl⟩
  repeat apply TW.seq
  refine ct (f2 hh (decide_eq_true c3)) ?_
  repeat apply TW.seq
  refine rk [4] [] hh ?_
  clear hh h
  intro h hh
  cases H1
  obtain rfl := sinl H
  exact rt hh
 clear hh h
 rintro h bs ⟨s_, rfl, hh, rfl⟩
 replace H := sinr H
 repeat apply TW.seq
 refine rk [4] [] hh ?_
 clear hh h
 intro h hh
 cases H
 exact rt hh
def sbits_And_L0 (k : Nat) (q : Pat) : Nat → Int → (Ar 10) → (Ar 10) → Option (Ar 10 × Ar 10)
 | 0, _, _, _ => none
 | m + 1, i, x, x2 => (if i < 10 then (if (0 : Int) ≤ i ∧ i < (10 : Int) then sbits_And_L0 k q m (IntKind.i64.wrap (i + 1)) (x.set i (iOr .i64 (gx x.l i) (gx q.mask.l i))) (x2.set i (iOr .i64 (gx x2.l i) (gx q.bits.l i))) else none) else some (x, x2))
def sbits_And (k : Nat) (p : Pat) (q : Pat) : Option (Pat × Bool) := ((sbits_Overlap k p q).bind fun rOverlap => (if rOverlap = true then ((sbits_And_L0 k q k 0 p.mask p.bits : Option (Ar 10 × Ar 10)).bind fun s_ => some ((⟨s_.1, s_.2⟩ : Pat), true)) else some ((⟨(zA 10), (zA 10)⟩ : Pat), false)))
set_option maxHeartbeats 8000000 in
theorem sbits_And_ok (ax : Axs) (hx : NoAx ax) (k : Nat) (p : Pat) (q : Pat) (v : Pat × Bool) (H : sbits_And k p q = some v) : Pure Try.prog (EE ax) [] 48 [ePat p, ePat q] (tupT [ePat v.1, .bool v.2]) := by
 rw [sbits_And] at H
 refine enN [.cell 4 33, .tmp 5] 39 [0, 1] (hx.no _ (by decide)) (fn48 ax) ?_
 intro h hh
 repeat apply TW.seq
 refine rk [2, 3, 4] [] hh ?_
 clear hh h
 intro h hh
 obtain ⟨rOverlap, e1, H⟩ := bsome H
 repeat apply TW.seq
 refine rkc [2, 3, 4, 10] [] [(.bool rOverlap, stL [.cells true 20 (p.mask.l.map (T.int .i64) ++ (p.bits.l.map (T.int .i64))), .cells true 20 (q.mask.l.map (T.int .i64) ++ (q.bits.l.map (T.int .i64))), .cells true 20 ((zA 10).l.map (T.int .i64) ++ ((zA 10).l.map (T.int .i64)))])] hh ?_ ?_
 ·exact ⟨Call0.call ((sbits_Overlap_ok ax hx k p q rOverlap e1 ).call _), trivial⟩
 clear hh h
 intro h hh
 rcases isb H with ⟨c2, H⟩ | ⟨c2, H⟩
 rotate_left
 ·skip
  repeat apply TW.seq
  refine ct (f2 hh c2) ?_
  repeat apply TW.seq
  refine rk [4, 5] [] (f2 hh c2) ?_
  clear hh h
  intro h hh
  cases H
  exact rtc hh
 repeat apply TW.seq
 refine cf (f2 hh c2) ?_
 repeat apply TW.seq
 refine sk ?_
 repeat apply TW.seq
 refine rk [2, 3, 4, 12] [] (f2 hh c2) ?_
 clear hh h
 intro h hh
 obtain ⟨s_, H1, H⟩ := bsome H
 repeat apply TW.seq
 refine cu [2, 4] 3 (fun h bs => (h 2 = .ptr 0 0 20 ∧ h 4 = .ptr 2 0 20) ∧ bs = [.cells true 20 (s_.1.l.map (T.int .i64) ++ (s_.2.l.map (T.int .i64))), .cells true 20 (q.mask.l.map (T.int .i64) ++ (q.bits.l.map (T.int .i64))), .cells true 20 ((zA 10).l.map (T.int .i64) ++ ((zA 10).l.map (T.int .i64)))]) ?_ ?_
 ·skip
  repeat apply TW.seq
  apply TW.block
  repeat apply TW.seq
  refine TW.loopT [2, 3, 4, 12] (fun m h bs => ∃ (i : Int) (x : Ar 10) (x2 : Ar 10), sbits_And_L0 k q m i x x2 = some s_ ∧ (h 2 = .ptr 0 0 20 ∧ h 3 = .ptr 1 0 20 ∧ h 4 = .ptr 2 0 20 ∧ h 12 = .int .i64 i) ∧ bs = [.cells true 20 (x.l.map (T.int .i64) ++ (x2.l.map (T.int .i64))), .cells true 20 (q.mask.l.map (T.int .i64) ++ (q.bits.l.map (T.int .i64))), .cells true 20 ((zA 10).l.map (T.int .i64) ++ ((zA 10).l.map (T.int .i64)))]) ?_ k _ _ ?_
  rotate_left
  ·exact ⟨0, p.mask, p.bits, H1, kq hh, rfl⟩
  clear hh h H1
  rintro m h bs ⟨i, x, x2, H1, hh, rfl⟩
  rcases m with _ | m
  ·rw [sbits_And_L0] at H1; cases H1
  rw [sbits_And_L0] at H1
  repeat apply TW.seq
  refine rk [2, 3, 4, 12, 13] [] (f2 hh c2) ?_
  clear hh h
  intro h hh
  rcases isp H1 with ⟨c3, H1⟩ | ⟨c3, H1⟩
  rotate_left
  ·skip
   repeat apply TW.seq
   refine cf (f2 hh (decide_eq_false c3)) ?_
   refine xk ?_
   cases H1
   exact ce hh ⟨kq hh, rfl⟩
  repeat apply TW.seq
  refine ct (f2 hh (decide_eq_true c3)) ?_
  repeat apply TW.seq
  refine sk ?_
  repeat apply TW.seq
  apply TW.block
  repeat apply TW.seq
  refine rk [2, 3, 4, 6, 12] [] (f2 hh c2) ?_
  clear hh h
  intro h hh
  obtain ⟨g4, H1⟩ := isg H1
  repeat apply TW.seq
  refine dk 8 [2, 3, 4, 6, 12] [] [] [] (f3 hh c2 (f3 (cellAt0 (k := .i64) (L := (x.l.map (T.int .i64) ++ (x2.l.map (T.int .i64)))) (r := (x2.l.map (T.int .i64))) x g4) (cellAt0 (k := .i64) (L := (q.mask.l.map (T.int .i64) ++ (q.bits.l.map (T.int .i64)))) (r := (q.bits.l.map (T.int .i64))) q.mask g4) (setAt0 (k := .i64) (L := (x.l.map (T.int .i64) ++ (x2.l.map (T.int .i64)))) (r := (x2.l.map (T.int .i64))) (L2 := ((x.set i (iOr .i64 (gx x.l i) (gx q.mask.l i))).l.map (T.int .i64) ++ (x2.l.map (T.int .i64)))) x (iOr .i64 (gx x.l i) (gx q.mask.l i)) g4))) trivial trivial ?_
  clear hh h
  intro h hh
  repeat apply TW.seq
  refine dk 8 [2, 3, 4, 12] [] [] [] (f3 hh c2 (f3 (cellAt (k := .i64) (off := 10) (L := ((x.set i (iOr .i64 (gx x.l i) (gx q.mask.l i))).l.map (T.int .i64) ++ (x2.l.map (T.int .i64)))) (r := []) x2 g4) (cellAt (k := .i64) (off := 10) (L := (q.mask.l.map (T.int .i64) ++ (q.bits.l.map (T.int .i64)))) (r := []) q.bits g4) (setAt (k := .i64) (off := 10) (L := ((x.set i (iOr .i64 (gx x.l i) (gx q.mask.l i))).l.map (T.int .i64) ++ (x2.l.map (T.int .i64)))) (r := []) (L2 := ((x.set i (iOr .i64 (gx x.l i) (gx q.mask.l i))).l.map (T.int .i64) ++ ((x2.set i (iOr .i64 (gx x2.l i) (gx q.bits.l i))).l.map (T.int .i64)))) (p := ((x.set i (iOr .i64 (gx x.l i) (gx q.mask.l i))).l.map (T.int .i64))) x2 (iOr .i64 (gx x2.l i) (gx q.bits.l i)) g4))) trivial trivial ?_
  clear hh h
  intro h hh
  repeat apply TW.seq
  refine rk [2, 3, 4, 12] [] (f2 hh c2) ?_
  clear hh h
  intro h hh
  exact rd m hh ⟨(IntKind.i64.wrap (i + 1)), (x.set i (iOr .i64 (gx x.l i) (gx q.mask.l i))), (x2.set i (iOr .i64 (gx x2.l i) (gx q.bits.l i))), H1, kq hh, rfl⟩
 clear hh h
 rintro h bs ⟨hh, rfl⟩
 repeat apply TW.seq
 refine rk [4, 5] [] (f2 hh c2) ?_
 clear hh h
 intro h hh
 cases H
 exact rtc hh
end Go.Proofs.Ytjgbkegkcbcjaaa
namespace Go.Proofs.Ytjgbkegkcbcjaaa
open Go Go.RowKit
def intsV : List Value → Option (List Int)
  | [] => some []
  | .int .i64 i :: l => (match intsV l with | some r => some (i :: r) | none => none)
  | _ => none
def patV : Value → Option Pat
  | .agg cs => (match intsV cs.toList with
    | some l => if h : l.length = 20 then some ⟨⟨l.take 10, by rw [List.length_take, h]; rfl⟩, ⟨l.drop 10, by rw [List.length_drop, h]⟩⟩ else none
    | none => none)
  | _ => none
def vPat (p : Pat) : Value := .agg ⟨(p.mask.l ++ p.bits.l).map (Value.int .i64)⟩
theorem intsV_vl {A : Nat → Prop} {β : Bx} {g : Nat → Fam} : ∀ {cs : List Value} {l : List Int}, intsV cs = some l → VL A β g (l.map (T.int .i64)) cs
  | [], l, h => by simp only [intsV, Option.some.injEq] at h; subst h; exact .nil
  | c :: cs, l, h => by
    unfold intsV at h
    split at h
    · rename_i heq; simp at heq
    · rename_i i l2 heq
      simp only [List.cons.injEq] at heq
      obtain ⟨rfl, rfl⟩ := heq
      split at h
      · rename_i r hr
        simp only [Option.some.injEq] at h
        subst h
        exact .cons (.int _ _) (intsV_vl hr)
      · simp at h
    · simp at h
theorem patV_vt {A : Nat → Prop} {β : Bx} {g : Nat → Fam} {v : Value} {p : Pat} (h : patV v = some p) : VT A β g (ePat p) v := by
  unfold patV at h
  split at h
  · rename_i cs
    split at h
    · rename_i l hl
      split at h
      · rename_i h20
        simp only [Option.some.injEq] at h
        subst h
        obtain ⟨cs⟩ := cs
        show VT A β g (.agg ((l.take 10).map (T.int .i64) ++ (l.drop 10).map (T.int .i64))) _
        rw [← List.map_append, List.take_append_drop]
        exact .agg (intsV_vl hl)
      · simp at h
    · simp at h
  · simp at h
theorem vl_ints {A : Nat → Prop} {β : Bx} {g : Nat → Fam} : ∀ {l : List Int} {vs : List Value}, VL A β g (l.map (T.int .i64)) vs → vs = l.map (Value.int .i64)
  | [], _, .nil => rfl
  | i :: l, _, .cons h k => by
    cases h
    rw [List.map_cons, vl_ints k]
theorem vt_pat {A : Nat → Prop} {β : Bx} {g : Nat → Fam} {p : Pat} {v : Value} (h : VT A β g (ePat p) v) : v = vPat p := by
  unfold ePat at h
  rw [← List.map_append] at h
  cases h with
  | agg k => rw [vl_ints k]; rfl
theorem plain_pat (p : Pat) : plainV 2 (vPat p) = true := by
  unfold vPat plainV
  rw [List.all_eq_true]
  intro x hx
  simp only [List.mem_map] at hx
  obtain ⟨i, _, rfl⟩ := hx
  rfl
def decOv : List Value → Option Value
  | [x, y] => (match patV x, patV y with
    | some p, some q => (match sbits_Overlap 12 p q with | some b => some (.bool b) | none => none)
    | _, _ => none)
  | _ => none
def decAnd : List Value → Option Value
  | [x, y] => (match patV x, patV y with
    | some p, some q => (match sbits_And 12 p q with | some r => some (.tuple #[vPat r.1, .bool r.2]) | none => none)
    | _, _ => none)
  | _ => none
theorem no_ax0 : NoAx fun _ => none := ⟨fun _ _ => rfl⟩
theorem decOv_ok (args : List Value) (v : Value) (h : decOv args = some v) : ∃ ts t, Pure Try.prog (EE fun _ => none) [] 73 ts t ∧ (∀ A β g, VL A β g ts args) ∧ (∀ A β g v', VT A β g t v' → v' = v) ∧ plainV 3 v = true := by
  unfold decOv at h
  split at h
  · rename_i x y
    split at h
    · rename_i p q hp hq
      split at h
      · rename_i b hb
        simp only [Option.some.injEq] at h
        subst h
        exact ⟨_, _, sbits_Overlap_ok _ no_ax0 12 p q b hb, fun A β g => .cons (patV_vt hp) (.cons (patV_vt hq) .nil), fun A β g v' k => by cases k; rfl, rfl⟩
      · simp at h
    · simp at h
  · simp at h
theorem decAnd_ok (args : List Value) (v : Value) (h : decAnd args = some v) : ∃ ts t, Pure Try.prog (EE fun _ => none) [] 48 ts t ∧ (∀ A β g, VL A β g ts args) ∧ (∀ A β g v', VT A β g t v' → v' = v) ∧ plainV 3 v = true := by
  unfold decAnd at h
  split at h
  · rename_i x y
    split at h
    · rename_i p q hp hq
      split at h
      · rename_i r hr
        simp only [Option.some.injEq] at h
        subst h
        refine ⟨_, _, sbits_And_ok _ no_ax0 12 p q r hr, fun A β g => .cons (patV_vt hp) (.cons (patV_vt hq) .nil), fun A β g v' k => ?_, ?_⟩
        · cases k with
          | tup k =>
            cases k with
            | cons k1 k2 =>
              cases k2 with
              | cons k3 k4 =>
                cases k4
                cases k3
                rw [vt_pat k1]
        · show plainV 3 (.tuple #[vPat r.1, .bool r.2]) = true
          unfold plainV
          show (plainV 2 (vPat r.1) && (plainV 2 (.bool r.2) && true)) = true
          rw [plain_pat]; rfl
      · simp at h
    · simp at h
  · simp at h
end Go.Proofs.Ytjgbkegkcbcjaaa
