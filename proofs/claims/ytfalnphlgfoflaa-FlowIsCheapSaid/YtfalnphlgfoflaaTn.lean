/- Trees: equations for simp. No program in sight. -/
import Derived.Test.YtfalnphlgfoflaaTm
namespace Go.Proofs.Ytfalnphlgfoflaa
open Go Go.RowKit
set_option linter.unusedSimpArgs false
set_option linter.unusedVariables false
section
variable {GL : List (Nat × List Value)} {P : Program} {Γ : Env} {own : List Nat} {ops l : List Oper} {h : Nat → T} {S : TS} {outs : List (T × TS)} {outsP : List T} {d : Option Tmp} {ty : TypeId} {pos : String} {e : Array Edge} {g : Option (Nat × Bool)}
noncomputable def thenT {α : Type} (r : Option (T × TS)) (k : T → TS → Option α) : Option α := match r with
  | some (t, S) => k t S
  | none => none
noncomputable def gateT {α : Type} (b : Option Bool) (off on : Unit → Option α) : Option α := match b with
  | some true => on ()
  | some false => off ()
  | none => none
theorem then_some {α : Type} (t : T) (S : TS) (k : T → TS → Option α) : thenT (some (t, S)) k = k t S := Eq.trans rfl rfl
theorem gate_on {α : Type} (a b : Unit → Option α) : gateT (some true) a b = b () := Eq.trans rfl rfl
theorem gate_off {α : Type} (a b : Unit → Option α) : gateT (some false) a b = a () := Eq.trans rfl rfl
noncomputable def slotT (ops : List Oper) (h : Nat → T) (j : Nat) : T := match dstOf ops j with | some t => h t | none => .junk
noncomputable def wantT (t : T) (w : Bool) : Option Bool := match t with | .bool b => some (b == w) | .tup _ => some false | _ => none
theorem want_no {l : List T} {w : Bool} : wantT (.tup l) w = some false := Eq.trans rfl rfl
theorem guard_some {j : Nat} {w : Bool} : guardT ops h (some (j, w)) = wantT (slotT ops h j) w := by
  unfold guardT slotT
  simp only
  cases dstOf ops j with
  | none => rfl
  | some t => simp only; cases h t <;> rfl
theorem want_tt : wantT (.bool true) true = some true := Eq.trans rfl rfl
theorem want_tf : wantT (.bool true) false = some false := Eq.trans rfl rfl
theorem want_ft : wantT (.bool false) true = some false := Eq.trans rfl rfl
theorem want_ff : wantT (.bool false) false = some true := Eq.trans rfl rfl
theorem slotT_zero {t : Tmp} {op : Op} : slotT (⟨some t, op, ty, pos, e, g⟩ :: l) h 0 = h t := Eq.trans rfl rfl
theorem slotT_succ {o : Oper} {n : Nat} : slotT (o :: l) h (n + 1) = slotT l h n := by
  unfold slotT dstOf
  rw [List.getElem?_cons_succ]
theorem runT_nil : runT P Γ GL own ops [] h S outs = some (True, h, S) := Eq.trans rfl rfl
theorem runP_nil : runP P Γ GL ops [] h S outsP = some (True, h) := Eq.trans rfl rfl
def isCall : Op → Bool
  | .call ⟨.value _, _, _⟩ => true
  | _ => false
noncomputable def nextT (P : Program) (Γ : Env) (GL : List (Nat × List Value)) (own : List Nat) (ops l : List Oper) (outs : List (T × TS)) (h : Nat → T) (d : Option Tmp) (t : T) (S : TS) : Option (Prop × (Nat → T) × TS) := runT P Γ GL own ops l (putT h d t) S outs
theorem next_eq {t : T} : nextT P Γ GL own ops l outs h d t S = runT P Γ GL own ops l (putT h d t) S outs := Eq.trans rfl rfl
noncomputable def offT (P : Program) (Γ : Env) (GL : List (Nat × List Value)) (own : List Nat) (ops l : List Oper) (outs : List (T × TS)) (h : Nat → T) (d : Option Tmp) (S : TS) (_ : Unit) : Option (Prop × (Nat → T) × TS) := runT P Γ GL own ops l (putT h d (.tup [])) S outs
theorem off_eq {u : Unit} : offT P Γ GL own ops l outs h d S u = runT P Γ GL own ops l (putT h d (.tup [])) S outs := Eq.trans rfl rfl
noncomputable def onceT (P : Program) (Γ : Env) (GL : List (Nat × List Value)) (own : List Nat) (ops l : List Oper) (outs : List (T × TS)) (h : Nat → T) (S : TS) (o : Oper) (_ : Unit) : Option (Prop × (Nat → T) × TS) := thenT (stepT P Γ own (evalT GL h) o S) (nextT P Γ GL own ops l outs h o.dst)
theorem once_eq {u : Unit} {op : Op} : onceT P Γ GL own ops l outs h S ⟨d, op, ty, pos, e, g⟩ u = thenT (stepT P Γ own (evalT GL h) ⟨d, op, ty, pos, e, g⟩ S) (nextT P Γ GL own ops l outs h d) := Eq.trans rfl rfl
theorem runT_any {op : Op} (hc : isCall op = false) : runT P Γ GL own ops (⟨d, op, ty, pos, e, g⟩ :: l) h S outs = gateT (guardT ops h g) (offT P Γ GL own ops l outs h d S) (onceT P Γ GL own ops l outs h S ⟨d, op, ty, pos, e, g⟩) := by
  rw [runT]
  simp only
  cases hg : guardT ops h g with
  | none => rfl
  | some b =>
    cases b with
    | false => rfl
    | true =>
      simp only [gateT, onceT]
      cases hs : stepT P Γ own (evalT GL h) ⟨d, op, ty, pos, e, g⟩ S with
      | none =>
        cases op with
        | call c =>
          obtain ⟨cal, args, tys⟩ := c
          cases cal with
          | value f => simp [isCall] at hc
          | _ => rfl
        | _ => rfl
      | some r =>
        cases op with
        | call c =>
          obtain ⟨cal, args, tys⟩ := c
          cases cal with
          | value f => simp [isCall] at hc
          | _ => rfl
        | _ => rfl
theorem runT_op {op : Op} (hc : isCall op = false) : runT P Γ GL own ops (⟨d, op, ty, pos, e, none⟩ :: l) h S outs = thenT (stepT P Γ own (evalT GL h) ⟨d, op, ty, pos, e, none⟩ S) (nextT P Γ GL own ops l outs h d) := by
  rw [runT_any hc]
  rfl
theorem runT_if {op : Op} {j : Nat} {w : Bool} (hc : isCall op = false) : runT P Γ GL own ops (⟨d, op, ty, pos, e, some (j, w)⟩ :: l) h S outs = gateT (wantT (slotT ops h j) w) (offT P Γ GL own ops l outs h d S) (onceT P Γ GL own ops l outs h S ⟨d, op, ty, pos, e, some (j, w)⟩) := by
  rw [runT_any hc, guard_some]
noncomputable def joinT (p : Option Prop) (k : Option (Prop × (Nat → T) × TS)) : Option (Prop × (Nat → T) × TS) := match p, k with
  | some p, some (q, h, S) => some (p ∧ q, h, S)
  | _, _ => none
theorem join_some {p q : Prop} : joinT (some p) (some (q, h, S)) = some (p ∧ q, h, S) := Eq.trans rfl rfl
noncomputable def callK (P : Program) (Γ : Env) (GL : List (Nat × List Value)) (own : List Nat) (ops l : List Oper) (outs : List (T × TS)) (h : Nat → T) (S : TS) (d : Option Tmp) (f : Operand) (args : List Operand) (r : T × TS) (_ : Unit) : Option (Prop × (Nat → T) × TS) := joinT (callT P Γ GL S (args.map (evalT GL h)) (evalT GL h f) r) (runT P Γ GL own ops l (putT h d r.1) r.2 outs)
theorem callK_eq {u : Unit} {f : Operand} {args : List Operand} {r : T × TS} : callK P Γ GL own ops l outs h S d f args r u = joinT (callT P Γ GL S (args.map (evalT GL h)) (evalT GL h f) r) (runT P Γ GL own ops l (putT h d r.1) r.2 outs) := Eq.trans rfl rfl
theorem runT_callG {f : Operand} {args : Array Operand} {tys : Array TypeId} {r : T × TS} : runT P Γ GL own ops (⟨d, .call ⟨.value f, args, tys⟩, ty, pos, e, g⟩ :: l) h S (r :: outs) = gateT (guardT ops h g) (offT P Γ GL own ops l (r :: outs) h d S) (callK P Γ GL own ops l outs h S d f args.toList r) := by
  rw [runT]
  simp only
  cases hg : guardT ops h g with
  | none => rfl
  | some b =>
    cases b with
    | false => rfl
    | true =>
      simp only [gateT, callK]
      cases callT P Γ GL S (args.toList.map (evalT GL h)) (evalT GL h f) r with
      | none => rfl
      | some p => cases runT P Γ GL own ops l (putT h d r.1) r.2 outs <;> rfl
theorem runT_call {f : Operand} {args : Array Operand} {tys : Array TypeId} {r : T × TS} : runT P Γ GL own ops (⟨d, .call ⟨.value f, args, tys⟩, ty, pos, e, none⟩ :: l) h S (r :: outs) = joinT (callT P Γ GL S (args.toList.map (evalT GL h)) (evalT GL h f) r) (runT P Γ GL own ops l (putT h d r.1) r.2 outs) := by
  rw [runT_callG]; rfl
theorem runT_callif {f : Operand} {args : Array Operand} {tys : Array TypeId} {r : T × TS} {j : Nat} {w : Bool} : runT P Γ GL own ops (⟨d, .call ⟨.value f, args, tys⟩, ty, pos, e, some (j, w)⟩ :: l) h S (r :: outs) = gateT (wantT (slotT ops h j) w) (offT P Γ GL own ops l (r :: outs) h d S) (callK P Γ GL own ops l outs h S d f args.toList r) := by
  rw [runT_callG, guard_some]
theorem runT_callno {f : Operand} {args : Array Operand} {tys : Array TypeId} {j : Nat} {w : Bool} : runT P Γ GL own ops (⟨d, .call ⟨.value f, args, tys⟩, ty, pos, e, some (j, w)⟩ :: l) h S [] = gateT (wantT (slotT ops h j) w) (offT P Γ GL own ops l [] h d S) (fun _ => none) := by
  rw [runT]
  simp only [guard_some]
  cases wantT (slotT ops h j) w with
  | none => rfl
  | some b => cases b <;> rfl
theorem callT_fn {k : Nat} {first cap args : List T} {r : T × TS} : callT P Γ GL S args (.fn k first cap) r = some (Call P Γ GL k (first ++ args ++ cap) S r.1 r.2) := Eq.trans rfl rfl
noncomputable def thenP {α : Type} (r : Option T) (k : T → Option α) : Option α := match r with
  | some t => k t
  | none => none
theorem thenP_some {α : Type} (t : T) (k : T → Option α) : thenP (some t) k = k t := Eq.trans rfl rfl
noncomputable def nextP (P : Program) (Γ : Env) (GL : List (Nat × List Value)) (ops l : List Oper) (outs : List T) (h : Nat → T) (d : Option Tmp) (S : TS) (t : T) : Option (Prop × (Nat → T)) := runP P Γ GL ops l (putT h d t) S outs
theorem nextP_eq {t : T} : nextP P Γ GL ops l outsP h d S t = runP P Γ GL ops l (putT h d t) S outsP := Eq.trans rfl rfl
noncomputable def offP (P : Program) (Γ : Env) (GL : List (Nat × List Value)) (ops l : List Oper) (outs : List T) (h : Nat → T) (d : Option Tmp) (S : TS) (_ : Unit) : Option (Prop × (Nat → T)) := runP P Γ GL ops l (putT h d (.tup [])) S outs
theorem offP_eq {u : Unit} : offP P Γ GL ops l outsP h d S u = runP P Γ GL ops l (putT h d (.tup [])) S outsP := Eq.trans rfl rfl
noncomputable def onceP (P : Program) (Γ : Env) (GL : List (Nat × List Value)) (ops l : List Oper) (outs : List T) (h : Nat → T) (S : TS) (o : Oper) (_ : Unit) : Option (Prop × (Nat → T)) := thenP (stepP P Γ (evalT GL h) o S) (nextP P Γ GL ops l outs h o.dst S)
theorem onceP_eq {u : Unit} {op : Op} : onceP P Γ GL ops l outsP h S ⟨d, op, ty, pos, e, g⟩ u = thenP (stepP P Γ (evalT GL h) ⟨d, op, ty, pos, e, g⟩ S) (nextP P Γ GL ops l outsP h d S) := Eq.trans rfl rfl
theorem runP_any {op : Op} (hc : isCall op = false) : runP P Γ GL ops (⟨d, op, ty, pos, e, g⟩ :: l) h S outsP = gateT (guardT ops h g) (offP P Γ GL ops l outsP h d S) (onceP P Γ GL ops l outsP h S ⟨d, op, ty, pos, e, g⟩) := by
  rw [runP]
  simp only
  cases hg : guardT ops h g with
  | none => rfl
  | some b =>
    cases b with
    | false => rfl
    | true =>
      simp only [gateT, onceP]
      cases hs : stepP P Γ (evalT GL h) ⟨d, op, ty, pos, e, g⟩ S with
      | none =>
        cases op with
        | call c =>
          obtain ⟨cal, args, tys⟩ := c
          cases cal with
          | value f => simp [isCall] at hc
          | _ => rfl
        | _ => rfl
      | some r =>
        cases op with
        | call c =>
          obtain ⟨cal, args, tys⟩ := c
          cases cal with
          | value f => simp [isCall] at hc
          | _ => rfl
        | _ => rfl
theorem runP_op {op : Op} (hc : isCall op = false) : runP P Γ GL ops (⟨d, op, ty, pos, e, none⟩ :: l) h S outsP = thenP (stepP P Γ (evalT GL h) ⟨d, op, ty, pos, e, none⟩ S) (nextP P Γ GL ops l outsP h d S) := by
  rw [runP_any hc]; rfl
theorem runP_if {op : Op} {j : Nat} {w : Bool} (hc : isCall op = false) : runP P Γ GL ops (⟨d, op, ty, pos, e, some (j, w)⟩ :: l) h S outsP = gateT (wantT (slotT ops h j) w) (offP P Γ GL ops l outsP h d S) (onceP P Γ GL ops l outsP h S ⟨d, op, ty, pos, e, some (j, w)⟩) := by
  rw [runP_any hc, guard_some]
noncomputable def joinP (p : Option Prop) (k : Option (Prop × (Nat → T))) : Option (Prop × (Nat → T)) := match p, k with
  | some p, some (q, h) => some (p ∧ q, h)
  | _, _ => none
theorem joinP_some {p q : Prop} : joinP (some p) (some (q, h)) = some (p ∧ q, h) := Eq.trans rfl rfl
noncomputable def callPK (P : Program) (Γ : Env) (GL : List (Nat × List Value)) (ops l : List Oper) (outs : List T) (h : Nat → T) (S : TS) (d : Option Tmp) (f : Operand) (args : List Operand) (r : T) (_ : Unit) : Option (Prop × (Nat → T)) := joinP (callP P Γ GL S (args.map (evalT GL h)) (evalT GL h f) r) (runP P Γ GL ops l (putT h d r) S outs)
theorem callPK_eq {u : Unit} {f : Operand} {args : List Operand} {r : T} : callPK P Γ GL ops l outsP h S d f args r u = joinP (callP P Γ GL S (args.map (evalT GL h)) (evalT GL h f) r) (runP P Γ GL ops l (putT h d r) S outsP) := Eq.trans rfl rfl
theorem runP_callG {f : Operand} {args : Array Operand} {tys : Array TypeId} {r : T} : runP P Γ GL ops (⟨d, .call ⟨.value f, args, tys⟩, ty, pos, e, g⟩ :: l) h S (r :: outsP) = gateT (guardT ops h g) (offP P Γ GL ops l (r :: outsP) h d S) (callPK P Γ GL ops l outsP h S d f args.toList r) := by
  rw [runP]
  simp only
  cases hg : guardT ops h g with
  | none => rfl
  | some b =>
    cases b with
    | false => rfl
    | true =>
      simp only [gateT, callPK]
      cases callP P Γ GL S (args.toList.map (evalT GL h)) (evalT GL h f) r with
      | none => rfl
      | some p => cases runP P Γ GL ops l (putT h d r) S outsP <;> rfl
theorem runP_call {f : Operand} {args : Array Operand} {tys : Array TypeId} {r : T} : runP P Γ GL ops (⟨d, .call ⟨.value f, args, tys⟩, ty, pos, e, none⟩ :: l) h S (r :: outsP) = joinP (callP P Γ GL S (args.toList.map (evalT GL h)) (evalT GL h f) r) (runP P Γ GL ops l (putT h d r) S outsP) := by
  rw [runP_callG]; rfl
theorem runP_callif {f : Operand} {args : Array Operand} {tys : Array TypeId} {r : T} {j : Nat} {w : Bool} : runP P Γ GL ops (⟨d, .call ⟨.value f, args, tys⟩, ty, pos, e, some (j, w)⟩ :: l) h S (r :: outsP) = gateT (wantT (slotT ops h j) w) (offP P Γ GL ops l (r :: outsP) h d S) (callPK P Γ GL ops l outsP h S d f args.toList r) := by
  rw [runP_callG, guard_some]
theorem runP_callno {f : Operand} {args : Array Operand} {tys : Array TypeId} {j : Nat} {w : Bool} : runP P Γ GL ops (⟨d, .call ⟨.value f, args, tys⟩, ty, pos, e, some (j, w)⟩ :: l) h S [] = gateT (wantT (slotT ops h j) w) (offP P Γ GL ops l [] h d S) (fun _ => none) := by
  rw [runP]
  simp only [guard_some]
  cases wantT (slotT ops h j) w with
  | none => rfl
  | some b => cases b <;> rfl
theorem callP_fn {k : Nat} {first cap args : List T} {r : T} : callP P Γ GL S args (.fn k first cap) r = some (Call0 P Γ GL k (first ++ args ++ cap) S r) := Eq.trans rfl rfl
theorem tupd_at {t u : Nat} {v : T} : tupd h t v u = if u = t then v else h u := Eq.trans rfl rfl
theorem pT_some {t : Tmp} {v : T} : putT h (some t) v = tupd h t v := Eq.trans rfl rfl
theorem pT_none {v : T} : putT h none v = h := Eq.trans rfl rfl
theorem eT_tmp {t : Tmp} : evalT GL h (.tmp t) = h t := Eq.trans rfl rfl
theorem eT_const {v : Value} : evalT GL h (.const v) = constT v := Eq.trans rfl rfl
theorem eT_func {f : Nat} : evalT GL h (.func f) = .fn f [] [] := Eq.trans rfl rfl
theorem eT_global {f : Nat} : evalT GL h (.global f) = globT GL f := Eq.trans rfl rfl
theorem kT_int {k : IntKind} {n : Int} : constT (.int k n) = .int k n := Eq.trans rfl rfl
theorem kT_bool {b : Bool} : constT (.bool b) = .bool b := Eq.trans rfl rfl
theorem kT_str {b : ByteArray} : constT (.string b) = .str b := Eq.trans rfl rfl
theorem kT_nils : constT (.slice none 0 0) = .nils := Eq.trans rfl rfl
theorem kT_nilp : constT (.pointer none) = .nilp := Eq.trans rfl rfl
theorem kT_nilm : constT (.map none) = .nilm := Eq.trans rfl rfl
theorem kT_nilf : constT .nilFunc = .nilf := Eq.trans rfl rfl
theorem withS_some {t : T} : withS S (some t) = some (t, S) := Eq.trans rfl rfl
theorem withJ_some : withJ (some S) = some (.junk, S) := Eq.trans rfl rfl
-- which operations are calls
theorem ic_move {x} : isCall (.move x) = false := Eq.trans rfl rfl
theorem ic_assign {x} : isCall (.assign x) = false := Eq.trans rfl rfl
theorem ic_pick {a b c} : isCall (.pick a b c) = false := Eq.trans rfl rfl
theorem ic_alloc {x} : isCall (.alloc x) = false := Eq.trans rfl rfl
theorem ic_box {x y} : isCall (.box x y) = false := Eq.trans rfl rfl
theorem ic_build {x y} : isCall (.build x y) = false := Eq.trans rfl rfl
theorem ic_buildSlice {x y z} : isCall (.buildSlice x y z) = false := Eq.trans rfl rfl
theorem ic_load {x y} : isCall (.load x y) = false := Eq.trans rfl rfl
theorem ic_store {x y z} : isCall (.store x y z) = false := Eq.trans rfl rfl
theorem ic_nilCheck {x} : isCall (.nilCheck x) = false := Eq.trans rfl rfl
theorem ic_bin {x y z w v} : isCall (.binOp x y z w v) = false := Eq.trans rfl rfl
theorem ic_un {x y z} : isCall (.unOp x y z) = false := Eq.trans rfl rfl
theorem ic_conv {x y z} : isCall (.convert x y z) = false := Eq.trans rfl rfl
theorem ic_s2a {x y} : isCall (.sliceToArrayPointer x y) = false := Eq.trans rfl rfl
theorem ic_makeFunc {x y z} : isCall (.makeFunc x y z) = false := Eq.trans rfl rfl
theorem ic_lookup {x y z w} : isCall (.lookup x y z w) = false := Eq.trans rfl rfl
theorem ic_makeMap {x y} : isCall (.makeMap x y) = false := Eq.trans rfl rfl
theorem ic_mapUpdate {x y z w} : isCall (.mapUpdate x y z w) = false := Eq.trans rfl rfl
theorem ic_insert {x y z w} : isCall (.insert x y z w) = false := Eq.trans rfl rfl
theorem ic_makeSlice {x y z} : isCall (.makeSlice x y z) = false := Eq.trans rfl rfl
theorem ic_slice {x y z w v} : isCall (.slice x y z w v) = false := Eq.trans rfl rfl
theorem ic_fieldAddr {x y z} : isCall (.fieldAddr x y z) = false := Eq.trans rfl rfl
theorem ic_field {x y z} : isCall (.field x y z) = false := Eq.trans rfl rfl
theorem ic_indexAddr {x y z} : isCall (.indexAddr x y z) = false := Eq.trans rfl rfl
theorem ic_index {x y z} : isCall (.index x y z) = false := Eq.trans rfl rfl
theorem ic_extract {x y} : isCall (.extract x y) = false := Eq.trans rfl rfl
theorem ic_builtin {b x y} : isCall (.call ⟨.builtin b, x, y⟩) = false := Eq.trans rfl rfl
variable {ρ : Operand → T} {t t2 : TypeId} {x y z : Operand}
theorem sT_move  : stepT P Γ own ρ ⟨d, .move x, ty, pos, e, g⟩ S = withS S (some (ρ x)) := Eq.trans rfl rfl
theorem sP_move  : stepP P Γ ρ ⟨d, .move x, ty, pos, e, g⟩ S = some (ρ x) := Eq.trans rfl rfl
theorem sT_assign  : stepT P Γ own ρ ⟨d, .assign x, ty, pos, e, g⟩ S = withS S (some (ρ x)) := Eq.trans rfl rfl
theorem sP_assign  : stepP P Γ ρ ⟨d, .assign x, ty, pos, e, g⟩ S = some (ρ x) := Eq.trans rfl rfl
theorem sT_load  : stepT P Γ own ρ ⟨d, .load t x, ty, pos, e, g⟩ S = withS S (tLoad Γ S t (ρ x)) := Eq.trans rfl rfl
theorem sP_load  : stepP P Γ ρ ⟨d, .load t x, ty, pos, e, g⟩ S = tLoad Γ S t (ρ x) := Eq.trans rfl rfl
theorem sT_nilCheck  : stepT P Γ own ρ ⟨d, .nilCheck x, ty, pos, e, g⟩ S = withS S (tNilCheck S (ρ x)) := Eq.trans rfl rfl
theorem sP_nilCheck  : stepP P Γ ρ ⟨d, .nilCheck x, ty, pos, e, g⟩ S = tNilCheck S (ρ x) := Eq.trans rfl rfl
theorem sT_s2a  : stepT P Γ own ρ ⟨d, .sliceToArrayPointer t x, ty, pos, e, g⟩ S = withS S (tS2A Γ S t (ρ x)) := Eq.trans rfl rfl
theorem sP_s2a  : stepP P Γ ρ ⟨d, .sliceToArrayPointer t x, ty, pos, e, g⟩ S = tS2A Γ S t (ρ x) := Eq.trans rfl rfl
theorem sT_fieldAddr {k : Nat} : stepT P Γ own ρ ⟨d, .fieldAddr t x k, ty, pos, e, g⟩ S = withS S (tFieldAddr Γ S t k (ρ x)) := Eq.trans rfl rfl
theorem sP_fieldAddr {k : Nat} : stepP P Γ ρ ⟨d, .fieldAddr t x k, ty, pos, e, g⟩ S = tFieldAddr Γ S t k (ρ x) := Eq.trans rfl rfl
theorem sT_field {k : Nat} : stepT P Γ own ρ ⟨d, .field t x k, ty, pos, e, g⟩ S = withS S (tField Γ t k (ρ x)) := Eq.trans rfl rfl
theorem sP_field {k : Nat} : stepP P Γ ρ ⟨d, .field t x k, ty, pos, e, g⟩ S = tField Γ t k (ρ x) := Eq.trans rfl rfl
theorem sT_indexAddr  : stepT P Γ own ρ ⟨d, .indexAddr t x y, ty, pos, e, g⟩ S = withS S (tIndexAddr Γ S t (ρ x) (ρ y)) := Eq.trans rfl rfl
theorem sP_indexAddr  : stepP P Γ ρ ⟨d, .indexAddr t x y, ty, pos, e, g⟩ S = tIndexAddr Γ S t (ρ x) (ρ y) := Eq.trans rfl rfl
theorem sT_index  : stepT P Γ own ρ ⟨d, .index t x y, ty, pos, e, g⟩ S = withS S (tIndex Γ t (ρ x) (ρ y)) := Eq.trans rfl rfl
theorem sP_index  : stepP P Γ ρ ⟨d, .index t x y, ty, pos, e, g⟩ S = tIndex Γ t (ρ x) (ρ y) := Eq.trans rfl rfl
theorem sT_extract {k : Nat} : stepT P Γ own ρ ⟨d, .extract x k, ty, pos, e, g⟩ S = withS S (tExtract k (ρ x)) := Eq.trans rfl rfl
theorem sP_extract {k : Nat} : stepP P Γ ρ ⟨d, .extract x k, ty, pos, e, g⟩ S = tExtract k (ρ x) := Eq.trans rfl rfl
theorem sT_un {u : UnOp} : stepT P Γ own ρ ⟨d, .unOp u t x, ty, pos, e, g⟩ S = withS S (tUn u (ρ x)) := Eq.trans rfl rfl
theorem sP_un {u : UnOp} : stepP P Γ ρ ⟨d, .unOp u t x, ty, pos, e, g⟩ S = tUn u (ρ x) := Eq.trans rfl rfl
theorem sT_bin {b : BinOp} : stepT P Γ own ρ ⟨d, .binOp b t x y t2, ty, pos, e, g⟩ S = withS S (tBin P Γ S t b x y (ρ x) (ρ y)) := Eq.trans rfl rfl
theorem sP_bin {b : BinOp} : stepP P Γ ρ ⟨d, .binOp b t x y t2, ty, pos, e, g⟩ S = tBin P Γ S t b x y (ρ x) (ρ y) := Eq.trans rfl rfl
theorem sT_build {parts : Array (Nat × Operand)} : stepT P Γ own ρ ⟨d, .build t parts, ty, pos, e, g⟩ S = withS S (tBuild Γ ρ t parts.toList) := Eq.trans rfl rfl
theorem sP_build {parts : Array (Nat × Operand)} : stepP P Γ ρ ⟨d, .build t parts, ty, pos, e, g⟩ S = tBuild Γ ρ t parts.toList := Eq.trans rfl rfl
theorem sT_slice {lo hi mx : Option Operand} : stepT P Γ own ρ ⟨d, .slice t x lo hi mx, ty, pos, e, g⟩ S = withS S (tSlice Γ S t (ρ x) (lo.map ρ) (hi.map ρ) (mx.map ρ)) := Eq.trans rfl rfl
theorem sP_slice {lo hi mx : Option Operand} : stepP P Γ ρ ⟨d, .slice t x lo hi mx, ty, pos, e, g⟩ S = tSlice Γ S t (ρ x) (lo.map ρ) (hi.map ρ) (mx.map ρ) := Eq.trans rfl rfl
theorem sT_makeFunc {f : Nat} {a c : Array Operand} : stepT P Γ own ρ ⟨d, .makeFunc (.func f) a c, ty, pos, e, g⟩ S = withS S (some (.fn f (a.toList.map ρ) (c.toList.map ρ))) := Eq.trans rfl rfl
theorem sP_makeFunc {f : Nat} {a c : Array Operand} : stepP P Γ ρ ⟨d, .makeFunc (.func f) a c, ty, pos, e, g⟩ S = some (.fn f (a.toList.map ρ) (c.toList.map ρ)) := Eq.trans rfl rfl
noncomputable def pickT (c a b : T) : Option T := match c with | .bool t => some (bif t then a else b) | _ => none
theorem pickT_t {a b : T} : pickT (.bool true) a b = some a := Eq.trans rfl rfl
theorem pickT_f {a b : T} : pickT (.bool false) a b = some b := Eq.trans rfl rfl
theorem sP_pick : stepP P Γ ρ ⟨d, .pick z x y, ty, pos, e, g⟩ S = pickT (ρ z) (ρ x) (ρ y) := by
  show (match ρ z with | .bool t => some (bif t then ρ x else ρ y) | _ => none) = _
  cases ρ z <;> rfl
theorem sT_pick : stepT P Γ own ρ ⟨d, .pick z x y, ty, pos, e, g⟩ S = withS S (pickT (ρ z) (ρ x) (ρ y)) := by
  show withS S (stepP P Γ ρ ⟨d, .pick z x y, ty, pos, e, g⟩ S) = _
  rw [sP_pick]
theorem sT_alloc : stepT P Γ own ρ ⟨d, .alloc t, ty, pos, e, g⟩ S = tAlloc Γ S t := Eq.trans rfl rfl
theorem sT_box : stepT P Γ own ρ ⟨d, .box t x, ty, pos, e, g⟩ S = tBox S (ρ x) := Eq.trans rfl rfl
theorem sT_store : stepT P Γ own ρ ⟨d, .store t x y, ty, pos, e, g⟩ S = withJ (tStore Γ S t (ρ y) (ρ x)) := Eq.trans rfl rfl
theorem sT_lookup {k : Operand} {ok : Bool} : stepT P Γ own ρ ⟨d, .lookup t x k ok, ty, pos, e, g⟩ S = withS S (tLookup Γ S t (ρ x) (ρ k) ok) := Eq.trans rfl rfl
theorem sP_lookup {k : Operand} {ok : Bool} : stepP P Γ ρ ⟨d, .lookup t x k ok, ty, pos, e, g⟩ S = tLookup Γ S t (ρ x) (ρ k) ok := Eq.trans rfl rfl
theorem sT_makeMap : stepT P Γ own ρ ⟨d, .makeMap t none, ty, pos, e, g⟩ S = tMakeMap S := Eq.trans rfl rfl
theorem sT_mapUpdate {k v : Operand} : stepT P Γ own ρ ⟨d, .mapUpdate t x k v, ty, pos, e, g⟩ S = withJ (tMapUpdate Γ S t (ρ k) (ρ v) (ρ x)) := Eq.trans rfl rfl
theorem sT_insert {k v : Operand} : stepT P Γ own ρ ⟨d, .insert t x k v, ty, pos, e, g⟩ S = withJ (tMapUpdate Γ S t (ρ k) (ρ v) (ρ x)) := Eq.trans rfl rfl
theorem sT_makeSlice : stepT P Γ own ρ ⟨d, .makeSlice t x y, ty, pos, e, g⟩ S = tMakeSlice Γ S t (ρ x) (ρ y) := Eq.trans rfl rfl
theorem sT_conv : stepT P Γ own ρ ⟨d, .convert t t2 x, ty, pos, e, g⟩ S = bif ownD own d then tConvOwn Γ S t t2 (ρ x) else withS S (tConvP Γ S t t2 (ρ x)) := Eq.trans rfl rfl
theorem sP_conv : stepP P Γ ρ ⟨d, .convert t t2 x, ty, pos, e, g⟩ S = tConvP Γ S t t2 (ρ x) := Eq.trans rfl rfl
theorem sT_buildSlice {n : Nat} {parts : Array (Nat × Operand)} : stepT P Γ own ρ ⟨d, .buildSlice t n parts, ty, pos, e, g⟩ S = bif ownD own d then tBuildOwn Γ S ρ t n parts.toList else withS S (tBuildFrozen Γ ρ t n parts.toList) := Eq.trans rfl rfl
theorem sP_buildSlice {n : Nat} {parts : Array (Nat × Operand)} : stepP P Γ ρ ⟨d, .buildSlice t n parts, ty, pos, e, g⟩ S = tBuildFrozen Γ ρ t n parts.toList := Eq.trans rfl rfl
theorem sP_len : stepP P Γ ρ ⟨d, .call ⟨.builtin .len, #[x], #[t]⟩, ty, pos, e, g⟩ S = tLen Γ S t (ρ x) := Eq.trans rfl rfl
theorem sT_len : stepT P Γ own ρ ⟨d, .call ⟨.builtin .len, #[x], #[t]⟩, ty, pos, e, g⟩ S = withS S (tLen Γ S t (ρ x)) := Eq.trans rfl rfl
theorem sT_append : stepT P Γ own ρ ⟨d, .call ⟨.builtin .append, #[x, y], #[t, t2]⟩, ty, pos, e, g⟩ S = bif srcT Γ t2 then tAppend Γ S t (ρ y) (ρ x) else none := Eq.trans rfl rfl
theorem sT_copy : stepT P Γ own ρ ⟨d, .call ⟨.builtin .copy, #[x, y], #[t, t2]⟩, ty, pos, e, g⟩ S = tCopy Γ S t (ρ y) (ρ x) := Eq.trans rfl rfl
noncomputable def minT (a b : T) : Option T := match a, b with | .int k a, .int _ b => some (.int k (min a b)) | _, _ => none
noncomputable def maxT (a b : T) : Option T := match a, b with | .int k a, .int _ b => some (.int k (max a b)) | _, _ => none
theorem minT_int {k k' : IntKind} {a b : Int} : minT (.int k a) (.int k' b) = some (.int k (min a b)) := Eq.trans rfl rfl
theorem maxT_int {k k' : IntKind} {a b : Int} : maxT (.int k a) (.int k' b) = some (.int k (max a b)) := Eq.trans rfl rfl
theorem sP_min {tys : Array TypeId} : stepP P Γ ρ ⟨d, .call ⟨.builtin .min, #[x, y], tys⟩, ty, pos, e, g⟩ S = minT (ρ x) (ρ y) := by
  show (match ρ x, ρ y with | .int k a, .int _ b => some (T.int k (min a b)) | _, _ => none) = _
  cases ρ x <;> cases ρ y <;> rfl
theorem sT_min {tys : Array TypeId} : stepT P Γ own ρ ⟨d, .call ⟨.builtin .min, #[x, y], tys⟩, ty, pos, e, g⟩ S = withS S (minT (ρ x) (ρ y)) := by
  show withS S (stepP P Γ ρ ⟨d, .call ⟨.builtin .min, #[x, y], tys⟩, ty, pos, e, g⟩ S) = _
  rw [sP_min]
theorem sP_max {tys : Array TypeId} : stepP P Γ ρ ⟨d, .call ⟨.builtin .max, #[x, y], tys⟩, ty, pos, e, g⟩ S = maxT (ρ x) (ρ y) := by
  show (match ρ x, ρ y with | .int k a, .int _ b => some (T.int k (max a b)) | _, _ => none) = _
  cases ρ x <;> cases ρ y <;> rfl
theorem sT_max {tys : Array TypeId} : stepT P Γ own ρ ⟨d, .call ⟨.builtin .max, #[x, y], tys⟩, ty, pos, e, g⟩ S = withS S (maxT (ρ x) (ρ y)) := by
  show withS S (stepP P Γ ρ ⟨d, .call ⟨.builtin .max, #[x, y], tys⟩, ty, pos, e, g⟩ S) = _
  rw [sP_max]
theorem tB_int {b : BinOp} {k k' : IntKind} {m n : Int} : tBin P Γ S t b x y (.int k m) (.int k' n) = intBin b k k' m n := Eq.trans rfl rfl
theorem tB_str {b : BinOp} {m n : ByteArray} : tBin P Γ S t b x y (.str m) (.str n) = strBin b m n := Eq.trans rfl rfl
theorem sb_eql {m n : ByteArray} : strBin .eql m n = some (.bool (decide (m = n))) := Eq.trans rfl rfl
theorem sb_neq {m n : ByteArray} : strBin .neq m n = some (.bool (!decide (m = n))) := Eq.trans rfl rfl
theorem tU_not {b : Bool} : tUn .not (.bool b) = some (.bool (!b)) := Eq.trans rfl rfl
theorem tU_neg {k : IntKind} {n : Int} : tUn .neg (.int k n) = some (.int k (k.wrap (0 - n))) := Eq.trans rfl rfl
end
section
variable {k : IntKind} {a b : Int}
theorem ib_add : intBin .add k k a b = some (.int k (k.wrap (a + b))) := by simp [intBin]
theorem ib_sub : intBin .sub k k a b = some (.int k (k.wrap (a - b))) := by simp [intBin]
theorem ib_mul : intBin .mul k k a b = some (.int k (k.wrap (a * b))) := by simp [intBin]
theorem ib_eql : intBin .eql k k a b = some (.bool (decide (a = b))) := by simp [intBin]
theorem ib_neq : intBin .neq k k a b = some (.bool (decide (a ≠ b))) := by simp [intBin]
theorem ib_lss : intBin .lss k k a b = some (.bool (decide (a < b))) := by simp [intBin]
theorem ib_leq : intBin .leq k k a b = some (.bool (decide (a ≤ b))) := by simp [intBin]
theorem ib_gtr : intBin .gtr k k a b = some (.bool (decide (b < a))) := by simp [intBin]
theorem ib_geq : intBin .geq k k a b = some (.bool (decide (b ≤ a))) := by simp [intBin]
theorem ib_quo (ha : 0 ≤ a) (hb : 0 < b) : intBin .quo k k a b = some (.int k (k.wrap (a / b))) := by
  simp only [intBin, Nat.beq_refl, cond_true]
  rw [if_neg (by omega), Int.tdiv_eq_ediv_of_nonneg ha]
theorem ib_rem (ha : 0 ≤ a) (hb : 0 < b) : intBin .rem k k a b = some (.int k (a % b)) := by
  simp only [intBin, Nat.beq_refl, cond_true]
  rw [if_neg (by omega), Int.tmod_eq_emod_of_nonneg ha]
theorem ib_and : intBin .and k k a b = some (.int k (k.wrap (BitVec.ofInt k.bits a &&& BitVec.ofInt k.bits b).toNat)) := by simp [intBin]
theorem ib_or : intBin .or k k a b = some (.int k (k.wrap (BitVec.ofInt k.bits a ||| BitVec.ofInt k.bits b).toNat)) := by simp [intBin]
theorem ib_xor : intBin .xor k k a b = some (.int k (k.wrap (BitVec.ofInt k.bits a ^^^ BitVec.ofInt k.bits b).toNat)) := by simp [intBin]
theorem ib_shl {k' : IntKind} (hb : 0 ≤ b) : intBin .shl k k' a b = some (.int k (k.wrap (a * 2 ^ (min b.toNat k.bits)))) := by simp [intBin, hb]
theorem ib_shr {k' : IntKind} (hb : 0 ≤ b) : intBin .shr k k' a b = some (.int k (a.fdiv (2 ^ (min b.toNat k.bits)))) := by simp [intBin, hb]
theorem wr64 {n : Int} (h : -9223372036854775808 ≤ n ∧ n ≤ 9223372036854775807) : IntKind.i64.wrap n = n := inK_i64 h
theorem natT_of {n : Int} (h : 0 ≤ n) : natT (.int k n) = some n.toNat := by
  obtain ⟨m, rfl⟩ := Int.eq_ofNat_of_zero_le h
  rfl
theorem natI_of {n : Int} (h : 0 ≤ n) : natOf (.int k n) = some n.toNat := by
  obtain ⟨m, rfl⟩ := Int.eq_ofNat_of_zero_le h
  rfl
theorem ofIntT_int {n : Int} : ofIntT (.int k n) = .int k n := Eq.trans rfl rfl
theorem get_some {α : Type} [Inhabited α] {L : List α} {n : Nat} (h : n < L.length) : L[n]? = some (L.getD n default) := by
  rw [List.getD_eq_getElem?_getD, List.getElem?_eq_getElem h]; rfl
def stL (l : List Box) : TS := ⟨l.length, fun i => l.getD i .gone⟩
theorem ts0_st : ts0 = stL [] := rfl
theorem st_n (l : List Box) : (stL l).n = l.length := rfl
theorem st_box (l : List Box) (i : Nat) : (stL l).box i = l.getD i .gone := rfl
theorem st_add (l : List Box) (x : Box) : (stL l).add x = stL (l ++ [x]) := by
  unfold stL TS.add
  simp only [List.length_append, List.length_cons, List.length_nil]
  congr 1
  funext i
  by_cases hi : i < l.length
  · rw [if_neg (by omega), List.getD_eq_getElem?_getD, List.getD_eq_getElem?_getD, List.getElem?_append_left hi]
  · by_cases he : i = l.length
    · subst he; rw [if_pos rfl]; simp
    · rw [if_neg he, List.getD_eq_getElem?_getD, List.getD_eq_getElem?_getD, List.getElem?_eq_none (by omega), List.getElem?_eq_none (by simp; omega)]
theorem st_set (l : List Box) (b : Nat) (x : Box) (h : b < l.length) : (stL l).set b x = stL (l.set b x) := by
  unfold stL TS.set
  simp only [List.length_set]
  congr 1
  funext i
  rw [List.getD_eq_getElem?_getD, List.getD_eq_getElem?_getD, List.getElem?_set]
  by_cases hi : i = b
  · subst hi; rw [if_pos rfl, if_pos rfl, if_pos h]; rfl
  · rw [if_neg hi, if_neg (fun hh => hi hh.symm)]
theorem getD_zero {α : Type} (x d : α) (l : List α) : (x :: l).getD 0 d = x := rfl
theorem getD_succ {α : Type} (x d : α) (l : List α) (n : Nat) : (x :: l).getD (n + 1) d = l.getD n d := rfl
end
end Go.Proofs.Ytfalnphlgfoflaa
