/- The plain machine, sixteenth part: the slots, and one operation inside a region. No program in sight. -/
import Derived.Test.YtcmfoipnoejmlaaDoorCm15
import Derived.Orders
import Derived.Scope
namespace Go.Proofs.YtcmfoipnoejmlaaDoor
open Go Go.RowKit

/-- globals that may be read lie where the model has them -/
def GlobOk (G : List Nat) (σ : Sg) : Prop := ∀ g, has G g = true → ∃ z, σ g (g * 1024) = some (g, 0, z)
theorem GlobOk.up {G : List Nat} {σ σ' : Sg} (h : GlobOk G σ) (k : Sg.le σ σ') : GlobOk G σ' := fun g hg => let ⟨z, hz⟩ := h g hg; ⟨z, k _ _ _ hz⟩
/-- the slots -/
structure FrR (σ : Sg) (fr : Fr) (a : Act) : Prop where
  size : fr.nt = a.tmps.size
  small : fr.nt ≤ 512
  val : ∀ t, VR σ (fr.get t) (a.tmps.getD t undef)
theorem FrR.up {σ σ' : Sg} {fr : Fr} {a : Act} (h : FrR σ fr a) (k : Sg.le σ σ') : FrR σ' fr a := ⟨h.size, h.small, fun t => (h.val t).mono k⟩
theorem Fr.put_nt (fr : Fr) (t : Nat) (v : Value) : (fr.put t v).nt = fr.nt := by
  unfold Fr.put
  rw [sel_eq]
  split <;> rfl
theorem Fr.get_put_same {fr : Fr} {t : Nat} (v : Value) (h : t < fr.nt) (h5 : fr.nt ≤ 512) : (fr.put t v).get t = v := by
  unfold Fr.put Fr.get
  rw [blt_iff.2 h, sel_true, blt_iff.2 (show t < 512 by omega), sel_true]
  exact Tr.get_set_same _ _ _ _
theorem Fr.get_put_other {fr : Fr} {t u : Nat} (v : Value) (h5 : fr.nt ≤ 512) (hne : t ≠ u) : (fr.put t v).get u = fr.get u := by
  unfold Fr.put Fr.get
  rw [sel_eq (Nat.blt t fr.nt)]
  split
  · rename_i h
    have h := blt_iff.1 h
    rw [sel_eq, sel_eq]
    split
    · rename_i hu
      have hu := blt_iff.1 hu
      exact Tr.get_set_other _ 9 _ _ _ hne (by show t < 512; omega) (by show u < 512; exact hu)
    · rfl
  · rfl
theorem Act.put_size (a : Act) (d : Option Tmp) (v : Value) : (a.put d v).tmps.size = a.tmps.size := by cases d <;> simp [Act.put]
theorem Act.put_defers' (a : Act) (d : Option Tmp) (v : Value) : (a.put d v).defers = a.defers := by cases d <;> rfl
theorem Act.getD_put_same {a : Act} {t : Nat} (v : Value) (h : t < a.tmps.size) : (a.put (some t) v).tmps.getD t undef = v := by
  simp [Act.put, h]
theorem Act.getD_put_other {a : Act} {t u : Nat} (v : Value) (hne : t ≠ u) : (a.put (some t) v).tmps.getD u undef = a.tmps.getD u undef := by
  simp [Act.put, Array.getElem?_setIfInBounds_ne hne]
theorem FrR.put {σ : Sg} {fr : Fr} {a : Act} {v v' : Value} (h : FrR σ fr a) (hv : VR σ v v') {d : Option Tmp} (hd : ∀ t, d = some t → t < fr.nt) : FrR σ (putC fr d v) (a.put d v') := by
  cases d with
  | none => exact h
  | some t =>
    have ht := hd t rfl
    refine ⟨by rw [Act.put_size]; show (fr.put t v).nt = _; rw [Fr.put_nt]; exact h.size, by show (fr.put t v).nt ≤ 512; rw [Fr.put_nt]; exact h.small, fun u => ?_⟩
    show VR σ ((fr.put t v).get u) _
    by_cases htu : t = u
    · subst htu
      rw [Fr.get_put_same v ht h.small, Act.getD_put_same v' (by rw [← h.size]; exact ht)]
      exact hv
    · rw [Fr.get_put_other v h.small htu, Act.getD_put_other v' htu]
      exact h.val u
theorem evalC_rel {G : List Nat} {σ : Sg} {fr : Fr} {a : Act} (hG : GlobOk G σ) {x : Operand} (hx : operandOk G x = true) (h : ∀ t, x = .tmp t → VR σ (fr.get t) (a.tmps.getD t undef)) : VR σ (evalC fr x) (a.eval x) := by
  cases x with
  | tmp t => exact h t rfl
  | const v => exact zeroV_refl hx
  | global g =>
    obtain ⟨z, hz⟩ := hG g hx
    refine VR.mk ⟨g, 0, z, ?_, rfl⟩
    exact hz
  | func f => exact VR.mk ⟨#[], #[], rfl, trivial, trivial⟩
theorem dstOf_eq (ops : Array Oper) (j : Nat) : dstOf ops.toList j = (ops[j]?).bind (·.dst) := by
  unfold dstOf
  rw [Array.getElem?_toList]
  cases ops[j]? <;> rfl
theorem VR.boolR {σ : Sg} {v : Value} {b : Bool} (h : VR σ v (.bool b)) : v = .bool b := by
  have := h.out
  cases v with
  | bool a => have := VR.bool h; simpa using this.symm
  | pointer a => cases a with
    | none => simp [StepV] at this
    | some a => obtain ⟨_, _, _, _, hq⟩ := this; simp at hq
  | slice a n c => cases a with
    | none => obtain ⟨_, _, hq⟩ := this; simp at hq
    | some a => obtain ⟨_, _, _, _, _, _, hq, _⟩ := this; simp at hq
  | map r => cases r with
    | none => simp [StepV] at this
    | some r => obtain ⟨_, _, _, _, hq⟩ := this; simp at hq
  | func fn xs ys => obtain ⟨_, _, hq, _⟩ := this; simp at hq
  | iface t x => obtain ⟨_, hq, _⟩ := this; simp at hq
  | agg xs => obtain ⟨_, hq, _⟩ := this; simp at hq
  | tuple xs => obtain ⟨_, hq, _⟩ := this; simp at hq
  | int k n => simp [StepV] at this
  | string s => simp [StepV] at this
  | nilFunc => simp [StepV] at this
  | nilIface => simp [StepV] at this
  | float k b => exact this.elim
  | complex k a b => exact this.elim
  | chan r => exact this.elim
theorem wanted_rel {σ : Sg} {fr : Fr} {a : Act} {ops : Array Oper} {o : Oper} (h : ∀ g b d, o.guard = some (g, b) → dstOf ops.toList g = some d → d < a.tmps.size ∧ VR σ (fr.get d) (a.tmps.getD d undef)) :
    Region.wanted o (yielded ops a.tmps) = wantedC ops.toList fr o := by
  unfold wantedC
  unfold Region.wanted
  cases hg : o.guard with
  | none => rfl
  | some p =>
    obtain ⟨j, want⟩ := p
    simp only
    unfold yielded
    rw [← dstOf_eq]
    cases hd : dstOf ops.toList j with
    | none => rfl
    | some d =>
      simp only [Option.bind_some]
      obtain ⟨hlt, hv⟩ := h j want d hg hd
      have hget : a.tmps[d]? = some (a.tmps.getD d undef) := by simp [hlt]
      rw [hget]
      generalize a.tmps.getD d undef = u at hv
      split
      · rename_i b hb
        simp only [Option.some.injEq] at hb
        subst hb
        rw [hv.boolR]
        simp
      · rename_i hn
        split
        · rename_i b hb
          rw [hb] at hv
          exact absurd (congrArg some hv.bool) (hn b)
        · rfl
/-- what is known of a function that is called -/
def CallOk (P : Program) (G : List Nat) (call : CallC) : Prop := ∀ f (args : List Value) (args' : Array Value) s v s' w σ V, call f args s = some (v, s') → RL (VR σ) args args'.toList → Rel σ V s w → Covers V s' → Fresh σ s.n s'.n → CInv s → GlobOk G σ →
  ∃ x, (callFunc f args').run P w = .ok (.enter x args') w ∧ Calls P x args' w fun e w' => ∃ σ' v', e = .returned v' ∧ VR σ' v v' ∧ Rel σ' V s' w' ∧ Ext σ V s w σ' s' w'
def CallCan (call : CallC) : Prop := ∀ f args s v s', call f args s = some (v, s') → CInv s → Can s s'
section
variable {P : Program} {Γ : Env} {σ : Sg} {V : Nat → Prop} {s s' : CS} {w : World} {G : List Nat} {call : CallC}
theorem stepC_can {ops : List Oper} {o : Oper} {fr fr' : Fr} (hc : CallCan call) (hI : CInv s) (h : stepC P Γ call ops o fr s = some (fr', s')) : Can s s' := by
  unfold stepC at h
  cases hw : wantedC ops fr o with
  | false => rw [hw] at h; simp only [cond_false, Option.some.injEq, Prod.mk.injEq] at h; rw [← h.2]; exact Can.refl _
  | true =>
    rw [hw] at h
    simp only [cond_true] at h
    cases hq : cop P Γ call (evalC fr) o s with
    | none => rw [hq] at h; simp at h
    | some p =>
      obtain ⟨v, s1⟩ := p
      rw [hq] at h
      simp only [Option.some.injEq, Prod.mk.injEq] at h
      rw [← h.2]
      exact cop_can hI (fun f args s v s' h1 h2 => hc f args s v s' h1 h2) hq
/-- one operation, in both machines: what stands behind it is reached -/
theorem step_wp (hE : EnvOk P Γ) (hC : CallOk P G call) (hr : Rel σ V s w) (hV : Covers V s') (hF : Fresh σ s.n s'.n) (hI : CInv s) (hG : GlobOk G σ) {ops : Array Oper} {o : Oper} {fr fr' : Fr} {a : Act} (hops : o.op.operands.toList.all (operandOk G) = true)
    (hnames : ∀ t, Operand.tmp t ∈ o.op.operands.toList → VR σ (fr.get t) (a.tmps.getD t undef)) (hguard : ∀ g b d, o.guard = some (g, b) → dstOf ops.toList g = some d → d < a.tmps.size ∧ VR σ (fr.get d) (a.tmps.getD d undef))
    (h : stepC P Γ call ops.toList o fr s = some (fr', s')) {K : Act → World → Prop} {Q : Exit → Act → World → Prop}
    (hK : ∀ σ' v v' w', fr' = putC fr o.dst v → VR σ' v v' → Rel σ' V s' w' → Ext σ V s w σ' s' w' → K (a.put o.dst v') w') :
    if Region.wanted o (yielded ops a.tmps) then o.wp P a w K Q ∨ (o.asks P a w ∧ LetsOut Q) else K (a.put o.dst undef) w := by
  rw [wanted_rel (fr := fr) hguard]
  unfold stepC at h
  cases hw : wantedC ops.toList fr o with
  | false =>
    rw [hw] at h
    simp only [cond_false, Option.some.injEq, Prod.mk.injEq] at h
    obtain ⟨rfl, rfl⟩ := h
    rw [if_neg (by simp)]
    exact hK σ undef undef w rfl VR.undef hr (Ext.refl _ _ _ _)
  | true =>
    rw [hw] at h
    simp only [cond_true] at h
    rw [if_pos rfl]
    left
    cases hq : cop P Γ call (evalC fr) o s with
    | none => rw [hq] at h; simp at h
    | some p =>
      obtain ⟨v, s1⟩ := p
      rw [hq] at h
      simp only [Option.some.injEq, Prod.mk.injEq] at h
      obtain ⟨rfl, rfl⟩ := h
      have hρ : ∀ x, x ∈ o.op.operands.toList → VR σ (evalC fr x) (a.eval x) := fun x hx => evalC_rel hG (List.all_eq_true.1 hops x hx) fun t ht => hnames t (by rw [← ht]; exact hx)
      unfold Oper.wp
      rcases cop_did hE hr hV hF hρ hq with ⟨f, args, args', h1, h2, h3⟩ | ⟨σ', w', nx, v', h1, h2, h3, h4, h5⟩
      · obtain ⟨x, h4, h5⟩ := hC f args args' s v s1 w σ V h3 h2 hr hV hF hI hG
        rw [h1, h4, Oper.upon_enter]
        refine h5.mono ?_
        rintro e w' ⟨σ', v', rfl, k1, k2, k3⟩
        exact hK σ' v v' w' rfl k1 k2 k3
      · rw [h1]
        rcases h2 with rfl | ⟨rfl, rfl⟩
        · exact hK σ' v v' w' rfl h3 h4 h5
        · exact hK σ' v undef w' rfl h3 h4 h5
/-- a region in the order of the text -/
theorem run_can {ops : List Oper} (hc : CallCan call) : ∀ {l : List Oper} {fr fr' : Fr} {s s' : CS}, CInv s → runC P Γ call ops l fr s = some (fr', s') → Can s s'
  | [], fr, fr', s, s', hI, h => by simp only [runC, Option.some.injEq, Prod.mk.injEq] at h; rw [← h.2]; exact Can.refl _
  | o :: l, fr, fr', s, s', hI, h => by
    simp only [runC] at h
    cases hq : stepC P Γ call ops o fr s with
    | none => rw [hq] at h; simp at h
    | some p =>
      obtain ⟨fr1, s1⟩ := p
      rw [hq] at h
      have c1 := stepC_can hc hI hq
      exact c1.trans (run_can hc (hI.next c1) h)
theorem run_wp (hE : EnvOk P Γ) (hC : CallOk P G call) (hc : CallCan call) {ops : Array Oper} {Q : Exit → Act → World → Prop} : ∀ {l : List Oper} {σ : Sg} {fr fr' : Fr} {s s' : CS} {w : World} {a : Act}, (∀ o, o ∈ l → operOk G fr.nt o = true) → (∀ o, o ∈ ops.toList → operOk G fr.nt o = true) →
    Rel σ V s w → Covers V s' → Fresh σ s.n s'.n → CInv s → GlobOk G σ → FrR σ fr a → runC P Γ call ops.toList l fr s = some (fr', s') →
    (∀ σ' a' w', FrR σ' fr' a' → a'.defers = a.defers → Rel σ' V s' w' → Ext σ V s w σ' s' w' → Q .normal a' w') → wpList P ops Q l a w
  | [], σ, fr, fr', s, s', w, a, hl, hl2, hr, hV, hF, hI, hG, hfr, h, hQ => by
    simp only [runC, Option.some.injEq, Prod.mk.injEq] at h
    obtain ⟨rfl, rfl⟩ := h
    exact hQ σ a w hfr rfl hr (Ext.refl _ _ _ _)
  | o :: l, σ, fr, fr', s, s', w, a, hl, hl2, hr, hV, hF, hI, hG, hfr, h, hQ => by
    simp only [runC] at h
    cases hq : stepC P Γ call ops.toList o fr s with
    | none => rw [hq] at h; simp at h
    | some p =>
      obtain ⟨fr1, s1⟩ := p
      rw [hq] at h
      simp only at h
      have c1 := stepC_can hc hI hq
      have hI1 := hI.next c1
      have c2 := run_can hc hI1 h
      have ho := hl o (by simp)
      unfold operOk at ho
      rw [Bool.and_eq_true] at ho
      unfold wpList
      refine step_wp hE hC hr (hV.back c2) (hF.mono (Nat.le_refl _) c2.n) hI hG ho.1 (fun t _ => hfr.val t) ?_ hq ?_
      · intro g b d _ hd
        refine ⟨?_, hfr.val d⟩
        unfold dstOf at hd
        cases hog : ops.toList[g]? with
        | none => rw [hog] at hd; simp at hd
        | some og =>
          rw [hog] at hd
          simp only at hd
          have := hl2 og (List.mem_of_getElem? hog)
          unfold operOk at this
          rw [Bool.and_eq_true, hd] at this
          rw [← hfr.size]
          exact blt_iff.1 this.2
      · intro σ' v v' w' hf hv hr' he'
        subst hf
        have hd : ∀ t, o.dst = some t → t < fr.nt := by
          intro t ht
          have := ho.2
          rw [ht] at this
          exact blt_iff.1 this
        have hfr' := (hfr.up he'.le).put (v := v) (v' := v') hv (d := o.dst) hd
        have hnt : (putC fr o.dst v).nt = fr.nt := by
          cases o.dst with
          | none => rfl
          | some t => exact Fr.put_nt _ _ _
        refine run_wp hE hC hc (l := l) (by rw [hnt]; exact fun o' ho' => hl o' (by simp [ho'])) (by rw [hnt]; exact hl2) hr' hV (hF.next he' c1) hI1 (hG.up he'.le) hfr' h ?_
        intro σ2 a2 w2 k1 k2 k3 k4
        exact hQ σ2 a2 w2 k1 (by rw [k2, Act.put_defers']) k3 (he'.trans k4 c1 c2 hF hI.none)
end
end Go.Proofs.YtcmfoipnoejmlaaDoor
