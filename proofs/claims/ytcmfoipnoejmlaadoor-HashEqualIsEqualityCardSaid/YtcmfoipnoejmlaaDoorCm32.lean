/- The plain machine by hand: strings, truth values, the lesser and the greater. No program in sight. -/
import Derived.Test.YtcmfoipnoejmlaaDoorCm31
import Derived.Laws.Strings
namespace Go.Proofs.YtcmfoipnoejmlaaDoor
open Go Go.RowKit
section
variable {P : Program} {Γ : Env} {ρ : Operand → Value} {s : CS} {d : Option Tmp} {ty : TypeId} {pos : String} {t t2 : TypeId} {x y : Operand} {e : Array Edge} {g : Option (Nat × Bool)}
theorem nilT_str (d : TypeDesc) (a : ByteArray) : nilT d (.string a) = none := by cases d <;> rfl
theorem nilT_bool (d : TypeDesc) (a : Bool) : nilT d (.bool a) = none := by cases d <;> rfl
theorem eqC_none {op : BinOp} {v w : Value} (h : ∀ d, nilT d v = none) : eqC Γ t op v w = none := by
  unfold eqC
  cases Γ.ti.at t with
  | none => rfl
  | some i => cases op <;> first | rfl | (simp only [h]; rfl)
theorem opBin_via {op : BinOp} {v w r : Value} {o : Oper} (ho : o.op = .binOp op t x y t2) (hx : ρ x = v) (hy : ρ y = w) (hc : binC op v w = none) (hn : ∀ d, nilT d v = none) (hpv : plainV 3 v = true) (hpw : plainV 3 w = true) (hg : eqGuard op t x y v w = pure ())
    (hr : eval0 P (binOp op t v w) = some r) (hp : plainV 3 r = true) : opBin P Γ ρ o s t op v w = some (r, s) := by
  unfold opBin
  rw [hc]
  simp only
  rw [eqC_none hn]
  simp only [orPure]
  unfold pureC
  have hops : (o.op.operands.toList.all fun z => plainV 3 (ρ z)) = true := by
    rw [ho]
    simp [Op.operands, hx, hy, hpv, hpw]
  rw [hops]
  have he : execOp ρ o = (do pure (.value (← binOp op t v w))) := by
    unfold execOp
    rw [ho]
    simp only [hx, hy, hg]
    simp
  rw [he]
  have hv : eval0 P (do pure (Next.value (← binOp op t v w))) = some (.value r) := by
    rw [eval0_bind hr]; rfl
  simp only [cond_true]
  rw [hv]
  show retC s (bif plainV 3 r then some r else none) = some (r, s)
  rw [hp]
  rfl
theorem str_beq (a b : ByteArray) : (a.toList == b.toList) = decide (a = b) := by
  rw [ByteArray.toList_eq, ByteArray.toList_eq]
  by_cases h : a = b
  · subst h; simp
  · rw [decide_eq_false h, beq_eq_false_iff_ne]
    intro k
    apply h
    apply ByteArray.ext
    exact Array.toList_inj.1 k
theorem os_eql {a b : ByteArray} (hx : ρ x = .string a) (hy : ρ y = .string b) : opBin P Γ ρ ⟨d, .binOp .eql t x y t2, ty, pos, e, g⟩ s t .eql (.string a) (.string b) = some (.bool (decide (a = b)), s) :=
  opBin_via rfl hx hy rfl (fun d => nilT_str d a) rfl rfl (by unfold eqGuard; simp) (by show some _ = _; rw [str_beq]) rfl
theorem os_neq {a b : ByteArray} (hx : ρ x = .string a) (hy : ρ y = .string b) : opBin P Γ ρ ⟨d, .binOp .neq t x y t2, ty, pos, e, g⟩ s t .neq (.string a) (.string b) = some (.bool (!decide (a = b)), s) :=
  opBin_via rfl hx hy rfl (fun d => nilT_str d a) rfl rfl (by unfold eqGuard; simp) (by show some _ = _; rw [str_beq]) rfl
theorem os_add {a b : ByteArray} (hx : ρ x = .string a) (hy : ρ y = .string b) (h : a.size + b.size ≤ 9223372036854775807) : opBin P Γ ρ ⟨d, .binOp .add t x y t2, ty, pos, e, g⟩ s t .add (.string a) (.string b) = some (.string (a ++ b), s) :=
  opBin_via rfl hx hy rfl (fun d => nilT_str d a) rfl rfl (by unfold eqGuard; simp) (by
    show eval0 P (Op.stringOp .add a b) = _
    unfold Op.stringOp
    simp only
    rw [if_neg (by have : IntKind.i64.max = 9223372036854775807 := by decide
                   omega)]
    rfl) rfl
theorem eval0_equal_bool {a b : Bool} (hd : P.underlying t = some .bool) : eval0 P (Op.equal t (.bool a) (.bool b)) = some (a == b) := by
  unfold Op.equal
  show eval0 P (Op.equalIn (_ + 1) t (.bool a) (.bool b)) = _
  unfold Op.equalIn
  rw [eval0_bind (eval0_underlying hd)]
  rfl
theorem ob_eql {a b : Bool} (hx : ρ x = .bool a) (hy : ρ y = .bool b) (hd : P.underlying t = some .bool) : opBin P Γ ρ ⟨d, .binOp .eql t x y t2, ty, pos, e, g⟩ s t .eql (.bool a) (.bool b) = some (.bool (a == b), s) :=
  opBin_via rfl hx hy rfl (fun d => nilT_bool d a) rfl rfl (by unfold eqGuard; simp) (by
    show eval0 P (do pure (Value.bool (← Op.equal t (.bool a) (.bool b))) : Sem Value) = _
    rw [eval0_bind (eval0_equal_bool hd)]; rfl) rfl
theorem ob_neq {a b : Bool} (hx : ρ x = .bool a) (hy : ρ y = .bool b) (hd : P.underlying t = some .bool) : opBin P Γ ρ ⟨d, .binOp .neq t x y t2, ty, pos, e, g⟩ s t .neq (.bool a) (.bool b) = some (.bool (!(a == b)), s) :=
  opBin_via rfl hx hy rfl (fun d => nilT_bool d a) rfl rfl (by unfold eqGuard; simp) (by
    show eval0 P (do pure (Value.bool (!(← Op.equal t (.bool a) (.bool b)))) : Sem Value) = _
    rw [eval0_bind (eval0_equal_bool hd)]; rfl) rfl
theorem pick_on {v w : Value} {b : Bool} : opPick s v w (.bool b) = some (bif b then v else w, s) := Eq.trans rfl rfl
variable {k k' : IntKind} {a b : Int} {tys : Array TypeId}
theorem o_max (hx : ρ x = .int k a) (hy : ρ y = .int k' b) : opBuiltin P Γ ρ ⟨d, .call ⟨.builtin .max, #[x, y], tys⟩, ty, pos, e, g⟩ s .max [x, y] tys.toList = some (.int k (max a b), s) := by
  show retC s (pureC P ρ _) = _
  have hm : max a b = if b > a then b else a := by rw [Int.max_def]; split <;> split <;> omega
  rw [hm, pureC_of (r := .int k (if b > a then b else a))]
  · rfl
  · show (plainV 3 (ρ x) && (plainV 3 (ρ y) && true)) = true
    rw [hx, hy]; rfl
  · simp [execOp, hx, hy, resolve, invoke, builtin, Builtin.max_, Builtin.max2]
  · rfl
theorem o_min (hx : ρ x = .int k a) (hy : ρ y = .int k' b) : opBuiltin P Γ ρ ⟨d, .call ⟨.builtin .min, #[x, y], tys⟩, ty, pos, e, g⟩ s .min [x, y] tys.toList = some (.int k (min a b), s) := by
  show retC s (pureC P ρ _) = _
  have hm : min a b = if b < a then b else a := by rw [Int.min_def]; split <;> split <;> omega
  rw [hm, pureC_of (r := .int k (if b < a then b else a))]
  · rfl
  · show (plainV 3 (ρ x) && (plainV 3 (ρ y) && true)) = true
    rw [hx, hy]; rfl
  · simp [execOp, hx, hy, resolve, invoke, builtin, Builtin.min_, Builtin.min2]
  · rfl
end
section
variable {P : Program} {Γ : Env} {call : CallC} {ops l : List Oper} {fr : Fr} {s : CS} {d : Option Tmp} {op : Op} {ty : TypeId} {pos : String} {e : Array Edge} {g : Option (Nat × Bool)}
/-- what the slot of operation j of the region holds -/
noncomputable def slotOf (ops : List Oper) (fr : Fr) (j : Nat) : Value := match dstOf ops j with | some t => fr.get t | none => undef
noncomputable def guardV (v : Value) (want : Bool) : Bool := match v with | .bool b => b == want | _ => false
noncomputable def goC {α : Type} (c : Bool) (x y : α) : α := bif c then x else y
theorem goC_true {α : Type} (x y : α) : goC true x y = x := Eq.trans rfl rfl
theorem goC_false {α : Type} (x y : α) : goC false x y = y := Eq.trans rfl rfl
theorem guard_tt : guardV (.bool true) true = true := Eq.trans rfl rfl
theorem guard_tf : guardV (.bool true) false = false := Eq.trans rfl rfl
theorem guard_ft : guardV (.bool false) true = false := Eq.trans rfl rfl
theorem guard_ff : guardV (.bool false) false = true := Eq.trans rfl rfl
theorem slot_zero {t : Tmp} : slotOf (⟨some t, op, ty, pos, e, g⟩ :: l) fr 0 = fr.get t := Eq.trans rfl rfl
theorem slot_succ {o : Oper} {n : Nat} : slotOf (o :: l) fr (n + 1) = slotOf l fr n := by
  unfold slotOf dstOf
  rw [List.getElem?_cons_succ]
theorem stepC_if {j : Nat} {want : Bool} : stepC P Γ call ops ⟨d, op, ty, pos, e, some (j, want)⟩ fr s = goC (guardV (slotOf ops fr j) want) (dstC fr d (cop P Γ call (evalC fr) ⟨d, op, ty, pos, e, some (j, want)⟩ s)) (some (putC fr d undef, s)) := by
  have hw : wantedC ops fr ⟨d, op, ty, pos, e, some (j, want)⟩ = guardV (slotOf ops fr j) want := by
    unfold wantedC slotOf
    simp only
    cases dstOf ops j with
    | none => rfl
    | some t => simp only; cases fr.get t <;> rfl
  unfold stepC
  rw [hw]
  cases guardV (slotOf ops fr j) want with
  | true =>
    rw [goC_true, cond_true]
    cases cop P Γ call (evalC fr) ⟨d, op, ty, pos, e, some (j, want)⟩ s with
    | none => rfl
    | some r => rfl
  | false => rw [goC_false, cond_false]
theorem put_some {t : Tmp} {v : Value} : putC fr (some t) v = fr.put t v := Eq.trans rfl rfl
theorem op_len {ρ : Operand → Value} {o : Oper} {x : Operand} {t : TypeId} : opBuiltin P Γ ρ o s .len [x] [t] = opLen Γ s t (ρ x) := Eq.trans rfl rfl
theorem len_sl {t el : TypeId} {z b n c : Nat} {zs : List Value} {x : Option Addr} (h : Γ.ti.at t = some ⟨.slice el, z, b, zs⟩) : opLen Γ s t (.slice x n c) = some (.int .i64 (n : Int), s) := by unfold opLen; rw [h]
theorem len_str {t : TypeId} {z b : Nat} {zs : List Value} {x : ByteArray} (h : Γ.ti.at t = some ⟨.string, z, b, zs⟩) : opLen Γ s t (.string x) = some (.int .i64 (x.size : Int), s) := by unfold opLen; rw [h]
/-- a region whose slots are told in part -/
theorem W.region_ex {id : Nat} {ops : Array Oper} {Q : Exit → Fr → CS → Prop} (R : Fr → CS → Prop) (h : ∃ r : Fr × CS, runC P Γ (callR P Γ) ops.toList ops.toList fr s = some r ∧ R r.1 r.2) (hq : ∀ fr' s', R fr' s' → Q .normal fr' s') : W P Γ (.region id ops false) fr s Q := by
  obtain ⟨⟨fr', s'⟩, h1, h2⟩ := h
  exact W.region h1 (hq _ _ h2)
theorem W.quiet_ex {id : Nat} {ops : Array Oper} {Q : Exit → Fr → CS → Prop} (R : Fr → CS → Prop) (h : ∃ r : Fr × CS, quietC P Γ (callR P Γ) ops.toList s.n ops.toList fr s = some r ∧ R r.1 r.2) (hq : ∀ fr' s', R fr' s' → Q .normal fr' s') : W P Γ (.region id ops true) fr s Q := by
  obtain ⟨⟨fr', s'⟩, h1, h2⟩ := h
  exact W.quiet h1 (hq _ _ h2)
/-- a call of a known function -/
theorem callR_ax {f : FuncId} {args : List Value} {k : List Value → CS → Option (Value × CS)} {r : Value × CS} (h : Γ.ax f = some k) (hk : k args s = some r) : callR P Γ f args s = some r := by
  refine callR_of (n := 0) ?_
  unfold callC
  rw [h]
  exact hk
end
end Go.Proofs.YtcmfoipnoejmlaaDoor
