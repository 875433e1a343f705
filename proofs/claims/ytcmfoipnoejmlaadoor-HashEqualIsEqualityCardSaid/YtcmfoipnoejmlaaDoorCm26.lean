/- The plain machine by hand, fourth part: equations for simp, one operation after the other. No program in sight. -/
import Derived.Test.YtcmfoipnoejmlaaDoorCm25
namespace Go.Proofs.YtcmfoipnoejmlaaDoor
open Go Go.RowKit
section
variable {P : Program} {Γ : Env} {call : CallC} {ops l : List Oper} {o : Oper} {fr : Fr} {s : CS}
noncomputable def thenC {α : Type} (r : Option (Fr × CS)) (k : Fr → CS → Option α) : Option α := match r with
  | some (fr, s) => k fr s
  | none => none
noncomputable def dstC (fr : Fr) (d : Option Tmp) (r : Option (Value × CS)) : Option (Fr × CS) := match r with
  | some (v, s) => some (putC fr d v, s)
  | none => none
theorem thenC_some {α : Type} (k : Fr → CS → Option α) : thenC (some (fr, s)) k = k fr s := Eq.trans rfl rfl
theorem dstC_dst (t : Tmp) (v : Value) : dstC fr (some t) (some (v, s)) = some (fr.put t v, s) := Eq.trans rfl rfl
theorem dstC_none (v : Value) : dstC fr none (some (v, s)) = some (fr, s) := Eq.trans rfl rfl
theorem runC_nil : runC P Γ call ops [] fr s = some (fr, s) := Eq.trans rfl rfl
theorem runC_cons : runC P Γ call ops (o :: l) fr s = thenC (stepC P Γ call ops o fr s) (runC P Γ call ops l) := by
  rw [runC]
  cases stepC P Γ call ops o fr s with
  | none => rfl
  | some r => rfl
theorem stepC_free {d : Option Tmp} {op : Op} {ty : TypeId} {pos : String} {e : Array Edge} : stepC P Γ call ops ⟨d, op, ty, pos, e, none⟩ fr s = dstC fr d (cop P Γ call (evalC fr) ⟨d, op, ty, pos, e, none⟩ s) := by
  rw [stepC, wantedC, cond_true]
  cases cop P Γ call (evalC fr) ⟨d, op, ty, pos, e, none⟩ s with
  | none => rfl
  | some r => rfl
theorem stepC_on {d : Option Tmp} {op : Op} {ty : TypeId} {pos : String} {e : Array Edge} {g : Option (Nat × Bool)} (h : wantedC ops fr ⟨d, op, ty, pos, e, g⟩ = true) : stepC P Γ call ops ⟨d, op, ty, pos, e, g⟩ fr s = dstC fr d (cop P Γ call (evalC fr) ⟨d, op, ty, pos, e, g⟩ s) := by
  rw [stepC, h, cond_true]
  cases cop P Γ call (evalC fr) ⟨d, op, ty, pos, e, g⟩ s with
  | none => rfl
  | some r => rfl
theorem stepC_off {d : Option Tmp} {op : Op} {ty : TypeId} {pos : String} {e : Array Edge} {g : Option (Nat × Bool)} (h : wantedC ops fr ⟨d, op, ty, pos, e, g⟩ = false) : stepC P Γ call ops ⟨d, op, ty, pos, e, g⟩ fr s = some (putC fr d undef, s) := by
  rw [stepC, h, cond_false]
theorem wanted_eq {d : Option Tmp} {op : Op} {ty : TypeId} {pos : String} {e : Array Edge} {j : Nat} {want : Bool} {t : Tmp} {b : Bool} (hd : dstOf ops j = some t) (hb : fr.get t = .bool b) : wantedC ops fr ⟨d, op, ty, pos, e, some (j, want)⟩ = (b == want) := by
  simp only [wantedC, hd, hb]
theorem ev_const (fr : Fr) (v : Value) : evalC fr (.const v) = v := by cases v <;> rfl
theorem ev_tmp (fr : Fr) (t : Nat) : evalC fr (.tmp t) = fr.get t := by cases t <;> rfl
theorem ev_func (fr : Fr) (f : Nat) : evalC fr (.func f) = .func (.func f) #[] #[] := by cases f <;> rfl
theorem ev_global (fr : Fr) (g : Nat) : evalC fr (.global g) = .pointer (some (mkA g (g * 1024) 0)) := by cases g <;> rfl
variable {ρ : Operand → Value} {d : Option Tmp} {ty : TypeId} {pos : String} {e : Array Edge} {g : Option (Nat × Bool)}
theorem cop_move {x : Operand} : cop P Γ call ρ ⟨d, .move x, ty, pos, e, g⟩ s = some (ρ x, s) := Eq.trans rfl rfl
theorem cop_assign {x : Operand} : cop P Γ call ρ ⟨d, .assign x, ty, pos, e, g⟩ s = some (ρ x, s) := Eq.trans rfl rfl
theorem cop_bin {op : BinOp} {t t2 : TypeId} {x y : Operand} : cop P Γ call ρ ⟨d, .binOp op t x y t2, ty, pos, e, g⟩ s = opBin P Γ ρ ⟨d, .binOp op t x y t2, ty, pos, e, g⟩ s t op (ρ x) (ρ y) := Eq.trans rfl rfl
theorem cop_un {op : UnOp} {t : TypeId} {x : Operand} : cop P Γ call ρ ⟨d, .unOp op t x, ty, pos, e, g⟩ s = orPure P ρ ⟨d, .unOp op t x, ty, pos, e, g⟩ s (unC op (ρ x)) := Eq.trans rfl rfl
theorem cop_conv {a b : TypeId} {x : Operand} : cop P Γ call ρ ⟨d, .convert a b x, ty, pos, e, g⟩ s = opConvert P Γ ρ ⟨d, .convert a b x, ty, pos, e, g⟩ s a b (ρ x) := Eq.trans rfl rfl
theorem cop_call {f : FuncId} {args : Array Operand} {tys : Array TypeId} : cop P Γ call (evalC fr) ⟨d, .call ⟨.value (.func f), args, tys⟩, ty, pos, e, g⟩ s = call f (args.toList.map (evalC fr)) s := by
  show opCall call s (args.toList.map (evalC fr)) (.func (.func f) #[] #[]) = _
  simp [opCall]
theorem cop_builtin {b : Builtin} {args : Array Operand} {tys : Array TypeId} : cop P Γ call ρ ⟨d, .call ⟨.builtin b, args, tys⟩, ty, pos, e, g⟩ s = opBuiltin P Γ ρ ⟨d, .call ⟨.builtin b, args, tys⟩, ty, pos, e, g⟩ s b args.toList tys.toList := Eq.trans rfl rfl
theorem cop_pick {c a b : Operand} : cop P Γ call ρ ⟨d, .pick c a b, ty, pos, e, g⟩ s = opPick s (ρ a) (ρ b) (ρ c) := Eq.trans rfl rfl
theorem cop_index {t : TypeId} {x ix : Operand} : cop P Γ call ρ ⟨d, .index t x ix, ty, pos, e, g⟩ s = opIndex Γ s t (ρ x) (natOf (ρ ix)) := Eq.trans rfl rfl
theorem cop_indexAddr {t : TypeId} {x ix : Operand} : cop P Γ call ρ ⟨d, .indexAddr t x ix, ty, pos, e, g⟩ s = opIndexAddr Γ s t (ρ x) (natOf (ρ ix)) := Eq.trans rfl rfl
theorem cop_load {t : TypeId} {x : Operand} : cop P Γ call ρ ⟨d, .load t x, ty, pos, e, g⟩ s = opLoad Γ s t (ρ x) := Eq.trans rfl rfl
theorem cop_store {t : TypeId} {x v : Operand} : cop P Γ call ρ ⟨d, .store t x v, ty, pos, e, g⟩ s = opStore Γ s t (ρ v).cells.toList (ρ x) := Eq.trans rfl rfl
theorem cop_alloc {t : TypeId} : cop P Γ call ρ ⟨d, .alloc t, ty, pos, e, g⟩ s = opAlloc Γ s t := Eq.trans rfl rfl
theorem cop_box {t : TypeId} {x : Operand} : cop P Γ call ρ ⟨d, .box t x, ty, pos, e, g⟩ s = ptrC (s.newRow 0 (ρ x).cells.toList) := Eq.trans rfl rfl
theorem cop_build {t : TypeId} {parts : Array (Nat × Operand)} : cop P Γ call ρ ⟨d, .build t parts, ty, pos, e, g⟩ s = opBuild Γ s ρ t parts.toList := Eq.trans rfl rfl
theorem cop_slice {t : TypeId} {x : Operand} {lo hi mx : Option Operand} : cop P Γ call ρ ⟨d, .slice t x lo hi mx, ty, pos, e, g⟩ s = opSlice Γ s t (ρ x) (lo.map ρ) (hi.map ρ) (mx.map ρ) := Eq.trans rfl rfl
theorem cop_s2a {t : TypeId} {x : Operand} : cop P Γ call ρ ⟨d, .sliceToArrayPointer t x, ty, pos, e, g⟩ s = opS2A Γ s t (ρ x) := Eq.trans rfl rfl
theorem cop_field {t : TypeId} {x : Operand} {k : Nat} : cop P Γ call ρ ⟨d, .field t x k, ty, pos, e, g⟩ s = opField Γ s t k (ρ x) := Eq.trans rfl rfl
theorem cop_fieldAddr {t : TypeId} {x : Operand} {k : Nat} : cop P Γ call ρ ⟨d, .fieldAddr t x k, ty, pos, e, g⟩ s = opFieldAddr Γ s t k (ρ x) := Eq.trans rfl rfl
theorem cop_extract {x : Operand} {k : Nat} : cop P Γ call ρ ⟨d, .extract x k, ty, pos, e, g⟩ s = opExtract s k (ρ x) := Eq.trans rfl rfl
theorem cop_nilCheck {x : Operand} : cop P Γ call ρ ⟨d, .nilCheck x, ty, pos, e, g⟩ s = opNilCheck s (ρ x) := Eq.trans rfl rfl
end
/-- a frame that is given by a function -/
noncomputable def Fr.of (n : Nat) (f : Nat → Value) : Fr := ⟨n, Tr.of f 9 0 1⟩
def upd (f : Nat → Value) (t : Nat) (v : Value) : Nat → Value := fun u => if u = t then v else f u
theorem upd_same (f : Nat → Value) (t : Nat) (v : Value) : upd f t v t = v := if_pos rfl
theorem upd_ne (f : Nat → Value) (t u : Nat) (v : Value) (h : u ≠ t) : upd f t v u = f u := if_neg h
theorem Tr.of_set {α : Type} (f : Nat → α) (v : α) : ∀ (d k w t : Nat), 0 < w → t < 2 ^ d → Tr.set v d (Tr.of f d k w) t = Tr.of (fun u => if u = k + t * w then v else f u) d k w := by
  intro d
  induction d generalizing f with
  | zero =>
    intro k w t hw ht
    have : t = 0 := by simpa using ht
    subst this
    show v = if k = k + 0 * w then v else f k
    rw [if_pos (by simp)]
  | succ d ih =>
    intro k w t hw ht
    have ext : ∀ (d k w : Nat) (f g : Nat → α), (∀ i, i < 2 ^ d → f (k + i * w) = g (k + i * w)) → Tr.of f d k w = Tr.of g d k w := by
      intro d
      induction d with
      | zero => intro k w f g h; show f k = g k; simpa using h 0 (by simp)
      | succ d ih =>
        intro k w f g h
        show Prod.mk _ _ = Prod.mk _ _
        congr 1
        · refine ih k (2 * w) f g fun i hi => ?_
          have := h (2 * i) (by rw [Nat.pow_succ]; omega)
          rw [show k + i * (2 * w) = k + 2 * i * w by rw [Nat.mul_comm 2 i, Nat.mul_assoc]]
          exact this
        · refine ih (k + w) (2 * w) f g fun i hi => ?_
          have := h (2 * i + 1) (by rw [Nat.pow_succ]; omega)
          rw [show k + w + i * (2 * w) = k + (2 * i + 1) * w by rw [Nat.add_mul, Nat.mul_comm 2 i, Nat.mul_assoc]; omega]
          exact this
    have hd : t / 2 < 2 ^ d := by rw [Nat.pow_succ] at ht; omega
    show Bool.rec (Prod.mk (Tr.of f d k (2 * w)) (Tr.set v d (Tr.of f d (k + w) (2 * w)) (t / 2))) (Prod.mk (Tr.set v d (Tr.of f d k (2 * w)) (t / 2)) (Tr.of f d (k + w) (2 * w))) (Nat.beq (t % 2) 0) = Prod.mk _ _
    have hm : t = 2 * (t / 2) + t % 2 := by omega
    cases hb : Nat.beq (t % 2) 0 with
    | true =>
      have h0 : t % 2 = 0 := Nat.eq_of_beq_eq_true hb
      show Prod.mk _ _ = Prod.mk _ _
      rw [ih f k (2 * w) (t / 2) (by omega) hd]
      congr 1
      · refine ext _ _ _ _ _ fun i hi => ?_
        have : k + t / 2 * (2 * w) = k + t * w := by
          have : t / 2 * (2 * w) = t * w := by rw [← Nat.mul_assoc]; congr 1; omega
          omega
        rw [this]
      · refine ext _ _ _ _ _ fun i hi => ?_
        rw [if_neg]
        intro hq
        have : w + i * (2 * w) = t * w := by omega
        have h2 : (2 * i + 1) * w = t * w := by rw [Nat.add_mul, Nat.mul_comm 2 i, Nat.mul_assoc]; omega
        have := Nat.eq_of_mul_eq_mul_right hw h2
        omega
    | false =>
      have h1 : t % 2 = 1 := by
        have : t % 2 ≠ 0 := fun h => by rw [h] at hb; simp at hb
        omega
      show Prod.mk _ _ = Prod.mk _ _
      rw [ih f (k + w) (2 * w) (t / 2) (by omega) hd]
      congr 1
      · refine ext _ _ _ _ _ fun i hi => ?_
        rw [if_neg]
        intro hq
        have h2 : (2 * i) * w = t * w := by rw [Nat.mul_comm 2 i, Nat.mul_assoc]; omega
        have := Nat.eq_of_mul_eq_mul_right hw h2
        omega
      · refine ext _ _ _ _ _ fun i hi => ?_
        have : k + w + t / 2 * (2 * w) = k + t * w := by
          have : w + t / 2 * (2 * w) = (2 * (t / 2) + 1) * w := by rw [Nat.add_mul, Nat.mul_comm 2 (t / 2), Nat.mul_assoc]; omega
          have h3 : 2 * (t / 2) + 1 = t := by omega
          rw [h3] at this
          omega
        rw [this]
theorem get_of (n : Nat) (f : Nat → Value) (t : Nat) (h : t < 512) : (Fr.of n f).get t = f t := by
  unfold Fr.get Fr.of
  rw [blt_iff.2 h, sel_true, Tr.get_of f 9 0 1 t (by simpa using h)]
  simp
theorem put_of (n : Nat) (f : Nat → Value) (t : Nat) (v : Value) (h : t < n) (h5 : n ≤ 512) : (Fr.of n f).put t v = Fr.of n (upd f t v) := by
  unfold Fr.put
  rw [show (Fr.of n f).nt = n from rfl, blt_iff.2 h, sel_true]
  unfold Fr.of
  refine congrArg (Fr.mk n) ?_
  rw [Tr.of_set f v 9 0 1 t (by omega) (by show t < 512; omega)]
  have : (fun u => if u = 0 + t * 1 then v else f u) = upd f t v := by
    funext u
    unfold upd
    rw [show 0 + t * 1 = t by omega]
  rw [this]
noncomputable def argF (l : List Value) (t : Nat) : Value := l.getD t undef
theorem all_of (n : Nat) : (⟨n, Tr.all undef 9⟩ : Fr) = Fr.of n fun _ => undef := by
  unfold Fr.of
  refine congrArg (Fr.mk n) ?_
  have : ∀ d k w, Tr.all undef d = Tr.of (fun _ => undef) d k w := by
    intro d
    induction d with
    | zero => intro k w; rfl
    | succ d ih =>
      intro k w
      exact congr (congrArg Prod.mk (ih k (2 * w))) (ih (k + w) (2 * w))
  exact this 9 0 1
section
variable {P : Program} {Γ : Env}
/-- a call, by the rules -/
theorem callR_go {f : FuncId} {fn : Func} {body : Code} {args : List Value} {s : CS} {r : Value × CS} (n : Nat) (hax : Γ.ax f = none) (hf : Γ.fn.at f = some fn) (hb : fn.body = some body) (hn : fn.ntmps = n) (hl : args.length ≤ n)
    (h : W P Γ body (Fr.ofArgs args 0 (Fr.of n fun _ => undef)) s fun e fr' s1 => (e = .normal ∨ e = .ret) ∧ ∃ vs, resC Γ fr' s1 fn.results.toList = some (vs, r.2) ∧ r.1 = tupC vs) : callR P Γ f args s = some r := by
  subst hn
  refine callR_body (v := r.1) (s2 := r.2) hax hf hb hl ?_
  rw [all_of]
  exact h
theorem ofArgs_cons (v : Value) (l : List Value) (i n : Nat) (f : Nat → Value) (h : i < n) (h5 : n ≤ 512) : Fr.ofArgs (v :: l) i (Fr.of n f) = Fr.ofArgs l (i + 1) (Fr.of n (upd f i v)) := by
  simp only [Fr.ofArgs, put_of n f i v h h5]
theorem ofArgs_nil (i : Nat) (fr : Fr) : Fr.ofArgs [] i fr = fr := Eq.trans rfl rfl
end
end Go.Proofs.YtcmfoipnoejmlaaDoor
