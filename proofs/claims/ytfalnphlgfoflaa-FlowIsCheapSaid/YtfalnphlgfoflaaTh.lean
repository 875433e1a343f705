/- Trees: numbers, strings, truth values, comparing, converting. No program in sight. -/
import Derived.Test.YtfalnphlgfoflaaTg
namespace Go.Proofs.Ytfalnphlgfoflaa
open Go Go.RowKit
set_option linter.unusedSimpArgs false
set_option linter.unusedVariables false
section
variable {GL : List (Nat × List Value)} {A A' A2 : Nat → Prop} {β β' β2 : Bx} {S S' : TS} {s s' s2 : CS} {P : Program} {Γ : Env}
noncomputable def intBin (op : BinOp) (k k' : IntKind) (a b : Int) : Option T :=
  match op with
  | .shl => if 0 ≤ b then some (.int k (k.wrap (a * 2 ^ (min b.toNat k.bits)))) else none
  | .shr => if 0 ≤ b then some (.int k (a.fdiv (2 ^ (min b.toNat k.bits)))) else none
  | op => bif Nat.beq (ikN k) (ikN k') then (match op with
    | .add => some (.int k (k.wrap (a + b)))
    | .sub => some (.int k (k.wrap (a - b)))
    | .mul => some (.int k (k.wrap (a * b)))
    | .quo => if b = 0 then none else some (.int k (k.wrap (a.tdiv b)))
    | .rem => if b = 0 then none else some (.int k (a.tmod b))
    | .and => some (.int k (k.wrap (BitVec.ofInt k.bits a &&& BitVec.ofInt k.bits b).toNat))
    | .or => some (.int k (k.wrap (BitVec.ofInt k.bits a ||| BitVec.ofInt k.bits b).toNat))
    | .xor => some (.int k (k.wrap (BitVec.ofInt k.bits a ^^^ BitVec.ofInt k.bits b).toNat))
    | .andNot => some (.int k (k.wrap (BitVec.ofInt k.bits a &&& ~~~ BitVec.ofInt k.bits b).toNat))
    | .eql => some (.bool (decide (a = b)))
    | .neq => some (.bool (decide (a ≠ b)))
    | .lss => some (.bool (decide (a < b)))
    | .leq => some (.bool (decide (a ≤ b)))
    | .gtr => some (.bool (decide (b < a)))
    | .geq => some (.bool (decide (b ≤ a)))
    | _ => none) else none
theorem intBin_ok {op : BinOp} {k k' : IntKind} {a b : Int} {r : T} (h : intBin op k k' a b = some r) : ∃ v, VT A β (objAt s.obj) r v ∧ ∀ {ρ : Operand → Value} {o : Oper} {t t2 : TypeId} {x y : Operand} {s : CS}, o.op = .binOp op t x y t2 → ρ x = .int k a → ρ y = .int k' b → opBin P Γ ρ o s t op (.int k a) (.int k' b) = some (v, s) := by
  unfold intBin at h
  split at h
  · split at h
    · rename_i h0
      cases h
      exact ⟨_, .int _ _, fun ho hx hy => opBin_pure ho hx hy default (by simp only [binOp, Op.shift]; rw [if_neg (by omega)]) rfl⟩
    · simp at h
  · split at h
    · rename_i h0
      cases h
      exact ⟨_, .int _ _, fun ho hx hy => opBin_pure ho hx hy default (by simp only [binOp, Op.shift]; rw [if_neg (by omega)]) rfl⟩
    · simp at h
  · cases hq : Nat.beq (ikN k) (ikN k') with
    | false => rw [hq] at h; simp at h
    | true =>
      rw [hq, cond_true] at h
      have := ikN_inj hq
      subst this
      split at h
      · cases h; exact ⟨_, .int _ _, fun ho hx hy => opBin_pure ho hx hy default (by simp only [binOp, Op.intArith, ne_eq, not_true, if_false]) rfl⟩
      · cases h; exact ⟨_, .int _ _, fun ho hx hy => opBin_pure ho hx hy default (by simp only [binOp, Op.intArith, ne_eq, not_true, if_false]) rfl⟩
      · cases h; exact ⟨_, .int _ _, fun ho hx hy => opBin_pure ho hx hy default (by simp only [binOp, Op.intArith, ne_eq, not_true, if_false]) rfl⟩
      · split at h
        · simp at h
        · rename_i hb; cases h; exact ⟨_, .int _ _, fun ho hx hy => opBin_pure ho hx hy default (by simp only [binOp, Op.intDiv, ne_eq, not_true, if_false]; rw [if_neg hb]) rfl⟩
      · split at h
        · simp at h
        · rename_i hb; cases h; exact ⟨_, .int _ _, fun ho hx hy => opBin_pure ho hx hy default (by simp only [binOp, Op.intDiv, ne_eq, not_true, if_false]; rw [if_neg hb]) rfl⟩
      · cases h; exact ⟨_, .int _ _, fun ho hx hy => opBin_pure ho hx hy default (by simp only [binOp, Op.intBits, ne_eq, not_true, if_false]) rfl⟩
      · cases h; exact ⟨_, .int _ _, fun ho hx hy => opBin_pure ho hx hy default (by simp only [binOp, Op.intBits, ne_eq, not_true, if_false]) rfl⟩
      · cases h; exact ⟨_, .int _ _, fun ho hx hy => opBin_pure ho hx hy default (by simp only [binOp, Op.intBits, ne_eq, not_true, if_false]) rfl⟩
      · cases h; exact ⟨_, .int _ _, fun ho hx hy => opBin_pure ho hx hy default (by simp only [binOp, Op.intBits, ne_eq, not_true, if_false]) rfl⟩
      · cases h; exact ⟨_, .bool _, fun ho hx hy => opBin_pure ho hx hy default (by simp [binOp, Op.intCmp]; rfl) rfl⟩
      · cases h; exact ⟨_, .bool _, fun ho hx hy => opBin_pure ho hx hy default (by simp [binOp, Op.intCmp] <;> rfl) rfl⟩
      · cases h; exact ⟨_, .bool _, fun ho hx hy => opBin_pure ho hx hy default (by simp [binOp, Op.intCmp]) rfl⟩
      · cases h; exact ⟨_, .bool _, fun ho hx hy => opBin_pure ho hx hy default (by simp [binOp, Op.intCmp]) rfl⟩
      · cases h; exact ⟨_, .bool _, fun ho hx hy => opBin_pure ho hx hy default (by simp [binOp, Op.intCmp]) rfl⟩
      · cases h; exact ⟨_, .bool _, fun ho hx hy => opBin_pure ho hx hy default (by simp [binOp, Op.intCmp]) rfl⟩
      · simp at h
noncomputable def strBin (op : BinOp) (a b : ByteArray) : Option T := match op with
  | .eql => some (.bool (decide (a = b)))
  | .neq => some (.bool (!decide (a = b)))
  | .add => if a.size + b.size ≤ 9223372036854775807 then some (.str (a ++ b)) else none
  | _ => none
theorem strBin_ok {op : BinOp} {a b : ByteArray} {r : T} (h : strBin op a b = some r) : ∃ v, VT A β (objAt s.obj) r v ∧ ∀ {ρ : Operand → Value} {o : Oper} {t t2 : TypeId} {x y : Operand} {s : CS}, o.op = .binOp op t x y t2 → ρ x = .string a → ρ y = .string b → opBin P Γ ρ o s t op (.string a) (.string b) = some (v, s) := by
  unfold strBin at h
  split at h
  · cases h; exact ⟨_, .bool _, fun ho hx hy => opBin_via ho hx hy rfl (fun d => nilT_str d a) rfl rfl (by unfold eqGuard; simp) (by show some _ = _; rw [str_beq]) rfl⟩
  · cases h; exact ⟨_, .bool _, fun ho hx hy => opBin_via ho hx hy rfl (fun d => nilT_str d a) rfl rfl (by unfold eqGuard; simp) (by show some _ = _; rw [str_beq]) rfl⟩
  · split at h
    · rename_i hs
      cases h
      exact ⟨_, .str _, fun ho hx hy => opBin_via ho hx hy rfl (fun d => nilT_str d a) rfl rfl (by unfold eqGuard; simp) (by
        show eval0 P (Op.stringOp .add a b) = _
        unfold Op.stringOp
        simp only
        rw [if_neg (by have : IntKind.i64.max = 9223372036854775807 := by decide
                       omega)]
        rfl) rfl⟩
    · simp at h
  · simp at h
theorem eval0_bind_e {α γ : Type} {f : α → Sem γ} : ∀ {m : Sem α}, eval0 P (m >>= f) = (eval0 P m).bind fun v => eval0 P (f v) := by
  intro m
  induction m with
  | pure a => rfl
  | program k ih => exact ih P
  | _ => rfl
theorem opBin_viaG {ρ : Operand → Value} {t t2 : TypeId} {x y : Operand} {op : BinOp} {v w r : Value} {o : Oper} (ho : o.op = .binOp op t x y t2) (hx : ρ x = v) (hy : ρ y = w) (hc : binC op v w = none) (hn : ∀ d, nilT d v = none) (hpv : plainV 3 v = true) (hpw : plainV 3 w = true)
    (hr : eval0 P (do eqGuard op t x y v w; binOp op t v w) = some r) (hp : plainV 3 r = true) : opBin P Γ ρ o s t op v w = some (r, s) := by
  unfold opBin
  rw [hc]
  simp only
  rw [eqC_none hn]
  simp only [orPure]
  unfold pureC
  have hops : (o.op.operands.toList.all fun z => plainV 3 (ρ z)) = true := by
    rw [ho]
    simp [Op.operands, hx, hy, hpv, hpw]
  rw [hops]
  have he : execOp ρ o = ((do eqGuard op t x y v w; binOp op t v w) >>= fun z => pure (Next.value z)) := by
    unfold execOp
    rw [ho]
    simp only [hx, hy]
  rw [he]
  have hv : eval0 P ((do eqGuard op t x y v w; binOp op t v w) >>= fun z => pure (Next.value z)) = some (.value r) := by
    rw [eval0_bind_e, hr]; rfl
  simp only [cond_true]
  rw [hv]
  show retC s (bif plainV 3 r then some r else none) = some (r, s)
  rw [hp]
  rfl
def scalV : T → Option Value
  | .int k n => some (.int k n)
  | .bool b => some (.bool b)
  | .str b => some (.string b)
  | _ => none
def scalsV : List T → Option (List Value)
  | [] => some []
  | t :: l => match scalV t, scalsV l with | some v, some r => some (v :: r) | _, _ => none
theorem scalV_ok {g : Nat → Fam} {t : T} {v w : Value} (h : scalV t = some w) (hv : VT A β g t v) : v = w ∧ ∀ n, plainV n v = true := by
  unfold scalV at h
  split at h
  · cases h; cases hv; exact ⟨rfl, fun n => by cases n <;> rfl⟩
  · cases h; cases hv; exact ⟨rfl, fun n => by cases n <;> rfl⟩
  · cases h; cases hv; exact ⟨rfl, fun n => by cases n <;> rfl⟩
  · simp at h
theorem scalsV_ok {g : Nat → Fam} : ∀ {l : List T} {vs ws : List Value}, scalsV l = some ws → VL A β g l vs → vs = ws ∧ vs.all (plainV 2) = true
  | [], _, ws, h, .nil => by simp only [scalsV, Option.some.injEq] at h; subst h; exact ⟨rfl, rfl⟩
  | t :: l, _, ws, h, .cons h1 h2 => by
    unfold scalsV at h
    split at h
    · rename_i v r e1 e2
      cases h
      obtain ⟨a, b⟩ := scalV_ok e1 h1
      obtain ⟨c, d⟩ := scalsV_ok e2 h2
      rw [a, c] at *
      exact ⟨rfl, by rw [List.all_cons, b 2, d]; rfl⟩
    · simp at h
noncomputable def aggBin (P : Program) (t : TypeId) (op : BinOp) (x y : Operand) (a b : List T) : Option T := match scalsV a, scalsV b with
  | some va, some vb => (match eval0 P (do eqGuard op t x y (.agg ⟨va⟩) (.agg ⟨vb⟩); binOp op t (.agg ⟨va⟩) (.agg ⟨vb⟩)) with
    | some (.bool r) => some (.bool r)
    | _ => none)
  | _, _ => none
theorem nilT_aggr (d : TypeDesc) (a : Array Value) : nilT d (.agg a) = none := by cases d <;> rfl
noncomputable def tNil (S : TS) : TypeDesc → T → Option Bool
  | .pointer _, .nilp => some true
  | .pointer _, .ptr b _ N => bif S.has b N then some false else none
  | .pointer _, .cp _ => some false
  | .slice _, .nils => some true
  | .slice _, .arr b _ _ _ _ N => bif S.has b N && Nat.blt 0 N then some false else none
  | .slice _, .lst _ (_ :: _) => some false
  | .slice _, .emp _ => some false
  | .map _ _, .nilm => some true
  | .func _ _ _, .nilf => some true
  | .func _ _ _, .fn _ _ _ => some false
  | _, _ => none
theorem tNil_ok (h : TRel GL A β S s) {d : TypeDesc} {t : T} {v : Value} {b : Bool} (hv : VT A β (objAt s.obj) t v) (ht : tNil S d t = some b) : nilT d v = some b := by
  unfold tNil at ht
  split at ht
  · cases ht; cases hv; rfl
  · rename_i b' _ N
    cases hs : S.has b' N with
    | false => rw [hs] at ht; simp at ht
    | true =>
      rw [hs] at ht
      cases ht
      obtain ⟨z, l, hS⟩ := TS.has_ok hs
      obtain ⟨f, u, rfl, hb⟩ := ptr_inv h hS hv
      rfl
  · cases ht; cases hv; rfl
  · cases ht; cases hv; rfl
  · rename_i b' _ _ _ _ N
    cases hs : (S.has b' N && Nat.blt 0 N) with
    | false => rw [hs] at ht; simp at ht
    | true =>
      rw [hs] at ht
      cases ht
      simp only [Bool.and_eq_true] at hs
      obtain ⟨z, l, hS⟩ := TS.has_ok hs.1
      have := blt_iff.1 hs.2
      rcases arr_inv h hS hv with ⟨f, u, rfl, hb, htag⟩ | ⟨rfl, hb, rfl, rfl, rfl, rfl⟩
      · rfl
      · omega
  · cases ht; cases hv; rfl
  · cases ht; cases hv; rfl
  · cases ht; cases hv; rfl
  · cases ht; cases hv; rfl
  · cases ht; cases hv; rfl
  · simp at ht
noncomputable def tBin (P : Program) (Γ : Env) (S : TS) (t : TypeId) (op : BinOp) (x y : Operand) (a b : T) : Option T := match a, b with
  | .int k m, .int k' n => intBin op k k' m n
  | .str m, .str n => strBin op m n
  | .bool m, .bool n => (match Γ.ti.at t with
    | some i => (match i.desc, op with | .bool, .eql => some (.bool (m == n)) | .bool, .neq => some (.bool (!(m == n))) | _, _ => none)
    | none => none)
  | .agg m, .agg n => aggBin P t op x y m n
  | a, b => (match Γ.ti.at t with
    | some i => (match tNil S i.desc a, tNil S i.desc b with
      | some p, some q => bif p || q then (match op with | .eql => some (.bool (p && q)) | .neq => some (.bool (!(p && q))) | _ => none) else none
      | _, _ => none)
    | none => none)
theorem binC_nil {op : BinOp} {v w : Value} {d : TypeDesc} {p : Bool} (h : nilT d v = some p) : binC op v w = none := by
  unfold nilT at h
  split at h <;> first | (simp at h; done) | rfl
theorem tBin_ok (hE : EnvOk P Γ) (h : TRel GL A β S s) {t t2 : TypeId} {op : BinOp} {x y : Operand} {o : Oper} {a b r : T} {ρ : Operand → Value} (ho : o.op = .binOp op t x y t2) (hx : VT A β (objAt s.obj) a (ρ x)) (hy : VT A β (objAt s.obj) b (ρ y)) (ht : tBin P Γ S t op x y a b = some r) : Ok0 GL A β S s (opBin P Γ ρ o s t op (ρ x) (ρ y)) r := by
  unfold tBin at ht
  split at ht
  · rename_i k m k' n
    obtain ⟨v, h1, h2⟩ := intBin_ok (A := A) (β := β) (s := s) (P := P) (Γ := Γ) ht
    generalize e1 : ρ x = vx at hx
    generalize e2 : ρ y = vy at hy
    cases hx; cases hy
    rw [h2 ho e1 e2]
    exact Ok0.same h h1
  · rename_i m n
    obtain ⟨v, h1, h2⟩ := strBin_ok (A := A) (β := β) (s := s) (P := P) (Γ := Γ) ht
    generalize e1 : ρ x = vx at hx
    generalize e2 : ρ y = vy at hy
    cases hx; cases hy
    rw [h2 ho e1 e2]
    exact Ok0.same h h1
  · rename_i m n
    generalize e1 : ρ x = vx at hx
    generalize e2 : ρ y = vy at hy
    cases hx; cases hy
    split at ht
    · rename_i i hi
      have hd := (hE.ti _ _ hi).und
      split at ht
      · rename_i hdb
        cases ht
        rw [hdb] at hd
        rw [opBin_via ho e1 e2 rfl (fun d => nilT_bool d m) rfl rfl (by unfold eqGuard; simp) (r := .bool (m == n)) (by
          show eval0 P (do pure (Value.bool (← Op.equal t (.bool m) (.bool n))) : Sem Value) = _
          rw [eval0_bind (eval0_equal_bool hd)]; rfl) rfl]
        exact Ok0.same h (.bool _)
      · rename_i hdb
        cases ht
        rw [hdb] at hd
        rw [opBin_via ho e1 e2 rfl (fun d => nilT_bool d m) rfl rfl (by unfold eqGuard; simp) (r := .bool (!(m == n))) (by
          show eval0 P (do pure (Value.bool (!(← Op.equal t (.bool m) (.bool n)))) : Sem Value) = _
          rw [eval0_bind (eval0_equal_bool hd)]; rfl) rfl]
        exact Ok0.same h (.bool _)
      · simp at ht
    · simp at ht
  · rename_i m n
    generalize e1 : ρ x = vx at hx
    generalize e2 : ρ y = vy at hy
    cases hx; cases hy
    rename_i va ha vb hb
    unfold aggBin at ht
    split at ht
    · rename_i wa wb h1 h2
      obtain ⟨rfl, k1⟩ := scalsV_ok h1 ‹VL A β (objAt s.obj) m _›
      obtain ⟨rfl, k2⟩ := scalsV_ok h2 ‹VL A β (objAt s.obj) n _›
      split at ht
      · rename_i r' hr
        cases ht
        rw [opBin_viaG ho e1 e2 rfl (fun d => nilT_aggr d _) k1 k2 hr rfl]
        exact Ok0.same h (.bool _)
      · simp at ht
    · simp at ht
  · split at ht
    · rename_i i hi
      split at ht
      · rename_i p q h1 h2
        cases hpq : (p || q) with
        | false => rw [hpq] at ht; simp at ht
        | true =>
          rw [hpq] at ht
          simp only [cond_true] at ht
          have n1 := tNil_ok h hx h1
          have n2 := tNil_ok h hy h2
          split at ht
          · cases ht
            have : opBin P Γ ρ o s t .eql (ρ x) (ρ y) = some (.bool (p && q), s) := by
              unfold opBin
              rw [binC_nil n1]
              simp only
              unfold eqC
              simp only [hi, n1, n2]
              unfold nilC
              simp only [hpq, cond_true]
              simp [orPure]
            rw [this]
            exact Ok0.same h (.bool _)
          · cases ht
            have : opBin P Γ ρ o s t .neq (ρ x) (ρ y) = some (.bool (!(p && q)), s) := by
              unfold opBin
              rw [binC_nil n1]
              simp only
              unfold eqC
              simp only [hi, n1, n2]
              unfold nilC
              simp only [hpq, cond_true]
              simp [orPure]
            rw [this]
            exact Ok0.same h (.bool _)
          · simp at ht
      · simp at ht
    · simp at ht
noncomputable def tUn (op : UnOp) : T → Option T
  | .bool b => (match op with | .not => some (.bool (!b)) | _ => none)
  | .int k a => (match op with
    | .neg => some (.int k (k.wrap (0 - a)))
    | .xor => some (.int k (k.wrap (BitVec.ofInt k.bits (if k.signed then -1 else k.max) ^^^ BitVec.ofInt k.bits a).toNat))
    | _ => none)
  | _ => none
theorem tUn_ok (h : TRel GL A β S s) {t : TypeId} {op : UnOp} {x : Operand} {o : Oper} {a r : T} {ρ : Operand → Value} (ho : o.op = .unOp op t x) (hx : VT A β (objAt s.obj) a (ρ x)) (ht : tUn op a = some r) : Ok0 GL A β S s (orPure P ρ o s (unC op (ρ x))) r := by
  obtain ⟨d, opx, ty, pos, e, g⟩ := o
  simp only at ho
  subst ho
  unfold tUn at ht
  split at ht
  · rename_i b
    generalize e1 : ρ x = vx at hx
    cases hx
    split at ht
    · cases ht
      exact Ok0.same h (.bool _)
    · simp at ht
  · rename_i k m
    generalize e1 : ρ x = vx at hx
    cases hx
    split at ht
    · cases ht
      rw [ou_neg e1]
      exact Ok0.same h (.int _ _)
    · cases ht
      rw [ou_xor e1]
      exact Ok0.same h (.int _ _)
    · simp at ht
  · simp at ht
def allU8T : List T → Option (List UInt8)
  | [] => some []
  | .int .u8 k :: l => (match allU8T l with | some r => some (UInt8.ofNat k.toNat :: r) | none => none)
  | _ :: _ => none
theorem allU8T_ok {g : Nat → Fam} : ∀ {l : List T} {vs : List Value} {r : List UInt8}, VL A β g l vs → allU8T l = some r → allU8 vs = some r
  | [], _, r, .nil, h => by simp only [allU8T, Option.some.injEq] at h; subst h; rfl
  | t :: l, _, r, .cons h1 h2, h => by
    unfold allU8T at h
    split at h
    · simp_all
    · rename_i k l' hh
      cases hh
      split at h
      · rename_i r' hr
        cases h
        cases h1
        unfold allU8
        rw [allU8T_ok h2 hr]
      · simp at h
    · simp at h
noncomputable def tStr (Γ : Env) (S : TS) (d1 d2 : TypeDesc) (x : T) : Option T := match d1, d2 with
  | .slice e, .string => bif isU8 Γ e then (match tSrc S 1 x with
    | some (_, xs) => (match allU8T xs with | some r => some (.str ⟨r.toArray⟩) | none => none)
    | none => none) else none
  | _, _ => none
theorem tStr_ok (h : TRel GL A β S s) {src dst : TypeId} {x : Operand} {o : Oper} {a r : T} {ρ : Operand → Value} {i j : TI} (hi : Γ.ti.at src = some i) (hj : Γ.ti.at dst = some j) (hx : VT A β (objAt s.obj) a (ρ x)) (ht : tStr Γ S i.desc j.desc a = some r) (hsl : ∀ n xs, tSrc S 1 a = some (n, xs) → ∃ aa c m, ρ x = .slice aa m c) : Ok0 GL A β S s (opConvert P Γ ρ o s src dst (ρ x)) r := by
  unfold tStr at ht
  split at ht
  · rename_i e hd1 hd2
    cases hq : isU8 Γ e with
    | false => rw [hq] at ht; simp at ht
    | true =>
      rw [hq] at ht
      simp only [cond_true] at ht
      split at ht
      · rename_i n xs hsrc
        obtain ⟨e1, e2, e3⟩ := tSrc_ok h (show 0 < 1 by omega) hx hsrc
        obtain ⟨ys, s1, f1, f2, f3⟩ := e3 n (Nat.le_refl _)
        rw [List.take_of_length_le (by omega)] at f2
        split at ht
        · rename_i r' hr'
          cases ht
          obtain ⟨aa, c, m, hsl⟩ := hsl n xs hsrc
          rw [hsl] at e1 f1 ⊢
          simp only [lenC, Option.some.injEq] at e1
          subst e1
          have : opConvert P Γ ρ o s src dst (.slice aa m c) = some (.string ⟨r'.toArray⟩, s1) := by
            unfold opConvert
            simp only [hi, hj, hd1, hd2, hq, cond_true]
            rw [f1]
            unfold strC
            simp only [allU8T_ok f2 hr']
          rw [this]
          exact Ok0.rd h (f3.rel0 h) (.str _)
        · simp at ht
      · simp at ht
  · simp at ht
noncomputable def tConvP (Γ : Env) (S : TS) (src dst : TypeId) (x : T) : Option T := match Γ.ti.at src, Γ.ti.at dst with
  | some i, some j => (match x with
    | .int _ n => (match j.desc with | .int k => some (.int k (k.wrap n)) | _ => none)
    | .str b => (match i.desc, j.desc with
      | .string, .slice e => bif isU8 Γ e && Nat.ble b.size 1000000000 then some (.lst 1 (bytesT b)) else none
      | .string, .string => some (.str b)
      | _, _ => none)
    | .lst e' l => tStr Γ S i.desc j.desc (.lst e' l)
    | .arr b e' off len cap N => tStr Γ S i.desc j.desc (.arr b e' off len cap N)
    | .nils => tStr Γ S i.desc j.desc .nils
    | _ => none)
  | _, _ => none
theorem conv_byt {ρ : Operand → Value} {o : Oper} {src dst e : TypeId} {i j : TI} {b : ByteArray} (hi : Γ.ti.at src = some i) (hj : Γ.ti.at dst = some j) (hd1 : i.desc = .string) (hd2 : j.desc = .slice e) (hq : (isU8 Γ e && Nat.ble b.size 1000000000) = true) : opConvert P Γ ρ o s src dst (.string b) = sliceC b.size b.size (s.newRow 2 (byteVs b)) := by
  unfold opConvert
  simp only [hi, hj, hd1, hd2, hq, cond_true]
theorem tConvP_ok (hE : EnvOk P Γ) (h : TRel GL A β S s) {src dst : TypeId} {x : Operand} {o : Oper} {a r : T} {ρ : Operand → Value} (ho : o.op = .convert src dst x) (hx : VT A β (objAt s.obj) a (ρ x)) (ht : tConvP Γ S src dst a = some r) : Ok0 GL A β S s (opConvert P Γ ρ o s src dst (ρ x)) r := by
  unfold tConvP at ht
  split at ht
  · rename_i i j hi hj
    split at ht
    · rename_i k n
      generalize e1 : ρ x = vx at hx
      cases hx
      split at ht
      · rename_i k' hd
        cases ht
        obtain ⟨d, opx, ty, pos, e, g⟩ := o
        simp only at ho
        subst ho
        have hs := (hE.ti _ _ hi).und
        have hdd := (hE.ti _ _ hj).und
        rw [hd] at hdd
        unfold opConvert
        simp only [hi, hj, hd]
        rw [oc_int ⟨k, e1⟩ (by rw [hs]; rfl) hdd]
        exact Ok0.same h (.int _ _)
      · simp at ht
    · rename_i b
      generalize e1 : ρ x = vx at hx
      cases hx
      split at ht
      · rename_i e hd1 hd2
        cases hq : (isU8 Γ e && Nat.ble b.size 1000000000) with
        | false => rw [hq] at ht; simp at ht
        | true =>
          rw [hq] at ht
          cases ht
          have hv : VL A β (objAt s.obj) (bytesT b) (byteVs b) := VL_bytes _
          obtain ⟨s', A', k1, k2, k3, k4, k5⟩ := h.newFrozen 2 (by omega) hv
          rw [conv_byt hi hj hd1 hd2 hq, k1]
          refine ⟨_, s', A', rfl, k4, ?_, k5⟩
          have hfm : (bytesT b).flatMap T.cells = bytesT b := by
            unfold bytesT byteT
            rw [List.flatMap_map]
            have : ∀ l : List UInt8, List.flatMap (fun (a : UInt8) => (T.int IntKind.u8 (a.toNat : Int)).cells) l = l.map fun a => .int .u8 (a.toNat : Int) := by
              intro l
              induction l with
              | nil => rfl
              | cons c l ih => rw [List.flatMap_cons, ih]; rfl
            exact this _
          have hln : (bytesT b).length = b.size := by simp [bytesT]
          have := VT.lst (A := A') (β := β) (g := objAt s'.obj) (e := 1) (off := 0) (cap := b.size) (l := bytesT b) k2 k3 (by rw [hfm]; exact k5.stp.vl h hv) (fun t ht => by
            obtain ⟨c, _, rfl⟩ := List.mem_map.1 ht
            rfl) (by omega) (by rw [List.drop_zero, List.take_length]) (.inr (by omega)) (by omega)
          rw [hln] at this
          exact this
      · rename_i hd1 hd2
        cases ht
        have : opConvert P Γ ρ o s src dst (.string b) = some (.string b, s) := by
          unfold opConvert
          simp only [hi, hj, hd1, hd2]
        rw [this]
        exact Ok0.same h (.str _)
      · simp at ht
    · refine tStr_ok h hi hj hx ht fun n xs hs => ?_
      generalize ρ x = vx at hx
      cases hx with
      | lnil => exact ⟨_, _, _, rfl⟩
      | lst => exact ⟨_, _, _, rfl⟩
    · rename_i b e' off len cap N
      refine tStr_ok h hi hj hx ht fun n xs hs => ?_
      unfold tSrc at hs
      simp only at hs
      split at hs
      · rename_i z N' l hS
        cases hq : (Nat.beq N N' && (Nat.beq e' 1 && Nat.ble (off + len * 1) N)) with
        | false => rw [hq] at hs; simp at hs
        | true =>
          simp only [Bool.and_eq_true] at hq
          have := Nat.eq_of_beq_eq_true hq.1
          subst this
          rcases arr_inv h hS hx with ⟨f, u, h1, hb, _⟩ | ⟨h1, _⟩
          · exact ⟨_, _, _, h1⟩
          · exact ⟨_, _, _, h1⟩
      · simp at hs
    · refine tStr_ok h hi hj hx ht fun n xs hs => ?_
      generalize ρ x = vx at hx
      cases hx
      exact ⟨_, _, _, rfl⟩
    · simp at ht
  · simp at ht
noncomputable def tConvOwn (Γ : Env) (S : TS) (src dst : TypeId) (x : T) : Option (T × TS) := match Γ.ti.at src, Γ.ti.at dst, x with
  | some i, some j, .str b => (match i.desc, j.desc with
    | .string, .slice e => bif isU8 Γ e && Nat.ble b.size 1000000000 then some (.arr S.n 1 0 b.size b.size (bytesT b).length, S.add (.cells false (bytesT b).length (bytesT b))) else none
    | _, _ => none)
  | _, _, _ => none
theorem tConvOwn_ok (h : TRel GL A β S s) {src dst : TypeId} {x : Operand} {o : Oper} {a r : T} {ρ : Operand → Value} (hx : VT A β (objAt s.obj) a (ρ x)) (ht : tConvOwn Γ S src dst a = some (r, S')) : Ok GL A β s (opConvert P Γ ρ o s src dst (ρ x)) r S' := by
  unfold tConvOwn at ht
  split at ht
  · rename_i i j b hi hj
    generalize e1 : ρ x = vx at hx
    cases hx
    split at ht
    · rename_i e hd1 hd2
      cases hq : (isU8 Γ e && Nat.ble b.size 1000000000) with
      | false => rw [hq] at ht; simp at ht
      | true =>
        rw [hq] at ht
        cases ht
        have hv : VL A β (objAt s.obj) (bytesT b) (byteVs b) := VL_bytes _
        have hone : (bytesT b).all T.one = true := by
          unfold bytesT byteT
          rw [List.all_eq_true]
          intro t ht
          obtain ⟨c, _, rfl⟩ := List.mem_map.1 ht
          rfl
        obtain ⟨s', β', k1, k2, k3, k4⟩ := h.newBox 2 (by omega) hv (hv.one hone)
        rw [conv_byt hi hj hd1 hd2 hq, k1]
        exact ⟨_, s', A, β', rfl, k3, .arr k2 (.inr (by omega)), k4⟩
    · simp at ht
  · simp at ht
end
end Go.Proofs.Ytfalnphlgfoflaa
