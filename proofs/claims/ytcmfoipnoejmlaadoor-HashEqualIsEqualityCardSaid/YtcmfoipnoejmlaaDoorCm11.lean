/- The plain machine, eleventh part: operations that ask nothing of memory. No program in sight. -/
import Derived.Test.YtcmfoipnoejmlaaDoorCm10
namespace Go.Proofs.YtcmfoipnoejmlaaDoor
open Go Go.RowKit

theorem wrap_nat (k : IntKind) (n : Nat) (h : n < topN k) : k.wrap (n : Int) = n := by
  cases k <;> simp [topN] at h <;> simp [IntKind.wrap, IntKind.bits, IntKind.signed] <;> omega
theorem top_bits (k : IntKind) : topN k ≤ 2 ^ k.bits := by cases k <;> simp [topN, IntKind.bits]
theorem top_pow (k : IntKind) : ∃ t, topN k = 2 ^ t := by
  cases k
  · exact ⟨7, rfl⟩
  · exact ⟨15, rfl⟩
  · exact ⟨31, rfl⟩
  · exact ⟨63, rfl⟩
  · exact ⟨8, rfl⟩
  · exact ⟨16, rfl⟩
  · exact ⟨32, rfl⟩
  · exact ⟨64, rfl⟩
theorem ikN_inj {k k' : IntKind} (h : Nat.beq (ikN k) (ikN k') = true) : k = k' := by
  cases k <;> cases k' <;> first | rfl | (exact absurd h (by decide))
theorem natI_some {k : IntKind} {b : Bool} {n : Nat} {v : Value} (h : natI k b n = some v) : b = true ∧ v = .int k (n : Int) := by
  unfold natI at h
  rw [sel_eq] at h
  split at h
  · rename_i hb; simp at h; exact ⟨hb, h.symm⟩
  · simp at h
theorem bv_nat (m : Nat) (k : IntKind) (h : m < topN k) : (BitVec.ofInt k.bits (m : Int)).toNat = m := by
  rw [BitVec.ofInt_natCast, BitVec.toNat_ofNat, Nat.mod_eq_of_lt (Nat.lt_of_lt_of_le h (top_bits k))]
theorem blt_dec (m n : Nat) : Nat.blt m n = decide ((m : Int) < (n : Int)) := by
  rw [Bool.eq_iff_iff, blt_iff, decide_eq_true_iff]; omega
theorem ble_dec (m n : Nat) : Nat.ble m n = decide ((m : Int) ≤ (n : Int)) := by
  rw [Bool.eq_iff_iff, ble_iff, decide_eq_true_iff]; omega
theorem beq_dec (m n : Nat) : Nat.beq m n = ((m : Int) == (n : Int)) := by
  rw [Bool.eq_iff_iff, beq_iff_eq]
  constructor
  · intro h; rw [Nat.eq_of_beq_eq_true h]
  · intro h; have : m = n := by omega
    subst this; exact Nat.beq_refl m
theorem binF_run {P : Program} {op : BinOp} {k : IntKind} {m n : Nat} {v : Value} {t : TypeId} {w : World} (h : binF op k m n = some v) : (binOp op t (.int k (m : Int)) (.int k (n : Int))).run P w = .ok v w := by
  unfold binF at h
  cases op with
  | add =>
    obtain ⟨h1, rfl⟩ := natI_some h
    have h2 := blt_iff.1 h1
    have := wrap_nat k (m + n) h2
    simp only [Int.natCast_add] at this
    simp [binOp, Op.intArith, this]
  | sub =>
    obtain ⟨h1, rfl⟩ := natI_some h
    rw [Bool.and_eq_true] at h1
    have h2 := ble_iff.1 h1.1
    have h3 := blt_iff.1 h1.2
    have := wrap_nat k (m - n) (by omega)
    rw [show ((m - n : Nat) : Int) = (m : Int) - n by omega] at this
    simp [binOp, Op.intArith, this]
    show (m : Int) - n = ((m - n : Nat) : Int)
    omega
  | mul =>
    obtain ⟨h1, rfl⟩ := natI_some h
    have h2 := blt_iff.1 h1
    have := wrap_nat k (m * n) h2
    simp only [Int.natCast_mul] at this
    simp [binOp, Op.intArith, this]
  | quo =>
    obtain ⟨h1, rfl⟩ := natI_some h
    rw [Bool.and_eq_true] at h1
    have h2 := blt_iff.1 h1.1
    have h3 := blt_iff.1 h1.2
    have h4 : m / n ≤ m := Nat.div_le_self m n
    have := wrap_nat k (m / n) (by omega)
    have h5 : (m : Int).tdiv (n : Int) = ((m / n : Nat) : Int) := by rw [Int.tdiv_eq_ediv_of_nonneg (by omega)]; rfl
    simp [binOp, Op.intDiv, show n ≠ 0 by omega, h5]
    rw [show (m : Int) / n = ((m / n : Nat) : Int) by rfl]
    exact this
  | rem =>
    obtain ⟨h1, rfl⟩ := natI_some h
    have h2 := blt_iff.1 h1
    have h5 : (m : Int).tmod (n : Int) = ((m % n : Nat) : Int) := by rw [Int.tmod_eq_emod_of_nonneg (by omega)]; rfl
    simp [binOp, Op.intDiv, show n ≠ 0 by omega, h5]
    rfl
  | and =>
    obtain ⟨h1, rfl⟩ := natI_some h
    rw [Bool.and_eq_true] at h1
    have h2 := blt_iff.1 h1.1
    have h3 := blt_iff.1 h1.2
    obtain ⟨t, ht⟩ := top_pow k
    have := wrap_nat k (m &&& n) (by rw [ht] at h3 ⊢; exact Nat.and_lt_two_pow _ h3)
    simp [binOp, Op.intBits, BitVec.toNat_and, bv_nat _ _ h2, bv_nat _ _ h3, -BitVec.ofInt_natCast]
    exact this
  | or =>
    obtain ⟨h1, rfl⟩ := natI_some h
    rw [Bool.and_eq_true] at h1
    have h2 := blt_iff.1 h1.1
    have h3 := blt_iff.1 h1.2
    obtain ⟨t, ht⟩ := top_pow k
    have := wrap_nat k (m ||| n) (by rw [ht] at h2 h3 ⊢; exact Nat.or_lt_two_pow h2 h3)
    simp [binOp, Op.intBits, BitVec.toNat_or, bv_nat _ _ h2, bv_nat _ _ h3, -BitVec.ofInt_natCast]
    exact this
  | xor =>
    obtain ⟨h1, rfl⟩ := natI_some h
    rw [Bool.and_eq_true] at h1
    have h2 := blt_iff.1 h1.1
    have h3 := blt_iff.1 h1.2
    obtain ⟨t, ht⟩ := top_pow k
    have := wrap_nat k (m ^^^ n) (by rw [ht] at h2 h3 ⊢; exact Nat.xor_lt_two_pow h2 h3)
    simp [binOp, Op.intBits, BitVec.toNat_xor, bv_nat _ _ h2, bv_nat _ _ h3, -BitVec.ofInt_natCast]
    exact this
  | shl =>
    obtain ⟨h1, rfl⟩ := natI_some h
    rw [Bool.and_eq_true] at h1
    have h3 := blt_iff.1 h1.2
    have h3' : m * 2 ^ (min n k.bits) < topN k := h3
    have := wrap_nat k _ h3'
    simp only [Int.natCast_mul, Int.natCast_pow] at this
    simp [binOp, Op.shift, show ¬ ((n : Int) < 0) by omega]
    rw [show ((2 : Int) ^ min n k.bits) = ((2 : Nat) : Int) ^ min n k.bits by rfl, this]
  | shr =>
    obtain ⟨h1, rfl⟩ := natI_some h
    simp [binOp, Op.shift, show ¬ ((n : Int) < 0) by omega]
    show (m : Int).fdiv _ = ((m / 2 ^ (min n k.bits) : Nat) : Int)
    rw [Int.fdiv_eq_ediv_of_nonneg _ (Int.pow_nonneg (by omega))]
    rw [Int.natCast_ediv, Int.natCast_pow]
    rfl
  | andNot => simp at h
  | eql => simp only [boolO, Option.some.injEq] at h; subst h; rw [beq_dec]; simp [binOp, Op.intCmp]
  | neq => simp only [boolO, Option.some.injEq] at h; subst h; rw [beq_dec]; simp [binOp, Op.intCmp]; rfl
  | lss => simp only [boolO, Option.some.injEq] at h; subst h; rw [blt_dec]; simp [binOp, Op.intCmp]
  | leq => simp only [boolO, Option.some.injEq] at h; subst h; rw [ble_dec]; simp [binOp, Op.intCmp]
  | gtr => simp only [boolO, Option.some.injEq] at h; subst h; rw [blt_dec]; simp [binOp, Op.intCmp]
  | geq => simp only [boolO, Option.some.injEq] at h; subst h; rw [ble_dec]; simp [binOp, Op.intCmp]
section
variable {P : Program} {Γ : Env} {σ : Sg} {V : Nat → Prop} {s s' : CS} {w : World} {v : Value}
theorem pureC_run {ρ ρ' : Operand → Value} {o : Oper} (hs : ∀ cs b, o.op ≠ .select cs b) (h : pureC P ρ o = some v) (hρ : ∀ x, x ∈ o.op.operands.toList → VR σ (ρ x) (ρ' x)) :
    (execOp ρ' o).run P w = .ok (.value v) w ∧ VR σ v v := by
  unfold pureC at h
  cases hp : o.op.operands.toList.all fun x => plainV 3 (ρ x) with
  | false => rw [hp] at h; simp at h
  | true =>
    rw [hp] at h
    simp only [cond_true] at h
    rw [List.all_eq_true] at hp
    have he : execOp ρ' o = execOp ρ o := execOp_congr o hs fun x hx => plain_eq 3 (hp x (by simpa using hx)) (hρ x (by simpa using hx))
    split at h
    · rename_i v1 hv
      cases hq : plainV 3 v1 with
      | false => rw [hq] at h; simp at h
      | true =>
        rw [hq] at h
        simp only [cond_true, Option.some.injEq] at h
        subst h
        exact ⟨by rw [he]; exact eval0_run hv w, plain_refl 3 hq⟩
    · simp at h
theorem orPure_did (hr : Rel σ V s w) {ρ ρ' : Operand → Value} {o : Oper} (hs : ∀ cs b, o.op ≠ .select cs b) {x : Option Value} (h : orPure P ρ o s x = some (v, s')) (hρ : ∀ x, x ∈ o.op.operands.toList → VR σ (ρ x) (ρ' x))
    (hx : ∀ y, x = some y → (execOp ρ' o).run P w = .ok (.value y) w ∧ VR σ y y) : Did σ V s w ((execOp ρ' o).run P w) v s' := by
  unfold orPure at h
  cases x with
  | some y =>
    simp only [Option.some.injEq, Prod.mk.injEq] at h
    obtain ⟨rfl, rfl⟩ := h
    obtain ⟨h1, h2⟩ := hx _ rfl
    exact Did.same hr h1 h2
  | none =>
    obtain ⟨h1, rfl⟩ := retC_some h
    obtain ⟨h2, h3⟩ := pureC_run (w := w) hs h1 hρ
    exact Did.same hr h2 h3
theorem unC_run {op : UnOp} {x x' y : Value} (h : unC op x = some y) (hx : VR σ x x') : (Op.unary op x').run P w = .ok y w ∧ VR σ y y := by
  unfold unC at h
  split at h
  · split at h
    · simp only [Option.some.injEq] at h
      subst h
      rw [hx.bool]
      exact ⟨by simp [Op.unary], VR.ofBool _⟩
    · simp at h
  · simp at h
theorem eqGuard_int {op : BinOp} {t : TypeId} {x y : Operand} {k k' : IntKind} {m n : Int} : (eqGuard op t x y (.int k m) (.int k' n)).run P w = .ok () w := by
  unfold eqGuard
  cases op <;> simp
theorem binC_run {op : BinOp} {t : TypeId} {x y : Operand} {a b a' b' : Value} (h : binC op a b = some v) (ha : VR σ a a') (hb : VR σ b b') : (eqGuard op t x y a' b').run P w = .ok () w ∧ (binOp op t a' b').run P w = .ok v w ∧ VR σ v v := by
  unfold binC at h
  split at h
  · rename_i k m k' n
    rw [sel_eq] at h
    split at h
    · rename_i hk
      have := ikN_inj hk
      subst this
      have h1 : a' = .int k (m : Int) := ha.int
      have h2 : b' = .int k (n : Int) := hb.int
      subst h1; subst h2
      refine ⟨eqGuard_int, binF_run h, ?_⟩
      unfold binF at h
      cases op <;> simp only [boolO, Option.some.injEq] at h <;> first
        | (obtain ⟨_, rfl⟩ := natI_some h; exact VR.ofInt _ _)
        | (subst h; exact VR.ofBool _)
        | (simp at h)
    · simp at h
  · simp at h
theorem convI_run {src dst : TypeId} {i j : TI} (hi : TIOk P src i) (hj : TIOk P dst j) {k k1 : IntKind} {n : Int} (hd : j.desc = .int k) {y : Value} (h : convI k n = some y) : (convert src dst (.int k1 n)).run P w = .ok y w ∧ VR σ y y := by
  unfold convI at h
  split at h
  · rename_i m
    obtain ⟨h1, rfl⟩ := natI_some h
    have := wrap_nat k m (blt_iff.1 h1)
    have hu := hj.und
    rw [hd] at hu
    refine ⟨?_, VR.ofInt _ _⟩
    simp only [convert, Sem.run_bind, run_underlying hi.und, run_underlying hu, Result.andThen_ok]
    have e : ∀ d : TypeDesc, (match d, TypeDesc.int k, Value.int k1 (Int.ofNat m) with
      | _, .int k, .int _ n => Conv.intToInt k n
      | _, _, _ => stuck "") = Conv.intToInt k (Int.ofNat m) := fun d => rfl
    simp [Conv.intToInt]
    exact this
  · simp at h
theorem eq_runs {t : TypeId} {x y : Value} {b : Bool} {o1 o2 : Operand} (h : ∀ d, (Op.equalIn (d + 1) t x y).run P w = .ok b w)
    (h1 : (Op.equal t x y).run P w = .ok b w → (binOp .eql t x y).run P w = .ok (.bool b) w) (h2 : (Op.equal t x y).run P w = .ok b w → (binOp .neq t x y).run P w = .ok (.bool (!b)) w) (h3 : ∀ op, (eqGuard op t o1 o2 x y).run P w = .ok () w) :
    (binOp .eql t x y).run P w = .ok (.bool b) w ∧ (binOp .neq t x y).run P w = .ok (.bool (!b)) w ∧ (∀ op, (eqGuard op t o1 o2 x y).run P w = .ok () w) :=
  ⟨h1 (h 9999), h2 (h 9999), h3⟩
set_option maxHeartbeats 1000000 in
theorem nilT_run {i : TI} {t : TypeId} (hi : TIOk P t i) {x y x' y' : Value} {a b : Bool} (hx : nilT i.desc x = some a) (hy : nilT i.desc y = some b) (hab : (a || b) = true) (vx : VR σ x x') (vy : VR σ y y') (o1 o2 : Operand) :
    (binOp .eql t x' y').run P w = .ok (.bool (a && b)) w ∧ (binOp .neq t x' y').run P w = .ok (.bool (!(a && b))) w ∧ (∀ op, (eqGuard op t o1 o2 x' y').run P w = .ok () w) := by
  have hu := hi.und
  cases hd : i.desc with
  | pointer e =>
    rw [hd] at hu hx hy
    cases x with
    | pointer p =>
      cases y with
      | pointer q =>
        simp only [nilT, Option.some.injEq] at hx hy
        cases p with
        | none =>
          obtain rfl := vx.out
          cases q with
          | none =>
            obtain rfl := vy.out
            subst hx; subst hy
            exact eq_runs (fun d => by simp [Op.equalIn, run_underlying hu]) (fun h => by simp [binOp, h]) (fun h => by simp [binOp, h]) (fun op => by unfold eqGuard; cases op <;> simp)
          | some q =>
            obtain ⟨_, _, _, _, rfl⟩ := vy.out
            subst hx; subst hy
            exact eq_runs (fun d => by simp [Op.equalIn, run_underlying hu]) (fun h => by simp [binOp, h]) (fun h => by simp [binOp, h]) (fun op => by unfold eqGuard; cases op <;> simp)
        | some p =>
          obtain ⟨_, _, _, _, rfl⟩ := vx.out
          cases q with
          | none =>
            obtain rfl := vy.out
            subst hx; subst hy
            exact eq_runs (fun d => by simp [Op.equalIn, run_underlying hu]) (fun h => by simp [binOp, h]) (fun h => by simp [binOp, h]) (fun op => by unfold eqGuard; cases op <;> simp)
          | some q => subst hx; subst hy; simp at hab
      | _ => simp [nilT] at hy
    | _ => simp [nilT] at hx
  | slice e =>
    rw [hd] at hu hx hy
    cases x with
    | slice p n c =>
      cases y with
      | slice q n2 c2 =>
        simp only [nilT, Option.some.injEq] at hx hy
        cases p with
        | none =>
          obtain ⟨rfl, rfl, rfl⟩ := vx.out
          cases q with
          | none =>
            obtain ⟨rfl, rfl, rfl⟩ := vy.out
            subst hx; subst hy
            exact eq_runs (fun d => by simp [Op.equalIn, run_underlying hu]) (fun h => by simp [binOp, h]) (fun h => by simp [binOp, h]) (fun op => by unfold eqGuard; cases op <;> simp)
          | some q =>
            obtain ⟨_, _, _, _, _, _, rfl, _⟩ := vy.out
            subst hx; subst hy
            exact eq_runs (fun d => by simp [Op.equalIn, run_underlying hu]) (fun h => by simp [binOp, h]) (fun h => by simp [binOp, h]) (fun op => by unfold eqGuard; cases op <;> simp)
        | some p =>
          obtain ⟨_, _, _, _, _, _, rfl, _⟩ := vx.out
          cases q with
          | none =>
            obtain ⟨rfl, rfl, rfl⟩ := vy.out
            subst hx; subst hy
            exact eq_runs (fun d => by simp [Op.equalIn, run_underlying hu]) (fun h => by simp [binOp, h]) (fun h => by simp [binOp, h]) (fun op => by unfold eqGuard; cases op <;> simp)
          | some q => subst hx; subst hy; simp at hab
      | _ => simp [nilT] at hy
    | _ => simp [nilT] at hx
  | map kt e =>
    rw [hd] at hu hx hy
    cases x with
    | map p =>
      cases y with
      | map q =>
        simp only [nilT, Option.some.injEq] at hx hy
        cases p with
        | none =>
          obtain rfl := vx.out
          cases q with
          | none =>
            obtain rfl := vy.out
            subst hx; subst hy
            exact eq_runs (fun d => by simp [Op.equalIn, run_underlying hu]) (fun h => by simp [binOp, h]) (fun h => by simp [binOp, h]) (fun op => by unfold eqGuard; cases op <;> simp)
          | some q =>
            obtain ⟨_, _, _, _, rfl⟩ := vy.out
            subst hx; subst hy
            exact eq_runs (fun d => by simp [Op.equalIn, run_underlying hu]) (fun h => by simp [binOp, h]) (fun h => by simp [binOp, h]) (fun op => by unfold eqGuard; cases op <;> simp)
        | some p =>
          obtain ⟨_, _, _, _, rfl⟩ := vx.out
          cases q with
          | none =>
            obtain rfl := vy.out
            subst hx; subst hy
            exact eq_runs (fun d => by simp [Op.equalIn, run_underlying hu]) (fun h => by simp [binOp, h]) (fun h => by simp [binOp, h]) (fun op => by unfold eqGuard; cases op <;> simp)
          | some q => subst hx; subst hy; simp at hab
      | _ => simp [nilT] at hy
    | _ => simp [nilT] at hx
  | func ps rs va =>
    rw [hd] at hu hx hy
    cases x with
    | func f1 a1 b1 =>
      obtain ⟨_, _, rfl, _⟩ := vx.out
      simp only [nilT, Option.some.injEq] at hx
      cases y with
      | func f2 a2 b2 => simp only [nilT, Option.some.injEq] at hy; subst hx; subst hy; simp at hab
      | nilFunc =>
        obtain rfl := vy.out
        simp only [nilT, Option.some.injEq] at hy
        subst hx; subst hy
        exact eq_runs (fun d => by simp [Op.equalIn, run_underlying hu]) (fun h => by simp [binOp, h]) (fun h => by simp [binOp, h]) (fun op => by unfold eqGuard; cases op <;> simp)
      | _ => simp [nilT] at hy
    | nilFunc =>
      obtain rfl := vx.out
      simp only [nilT, Option.some.injEq] at hx
      cases y with
      | func f2 a2 b2 =>
        obtain ⟨_, _, rfl, _⟩ := vy.out
        simp only [nilT, Option.some.injEq] at hy
        subst hx; subst hy
        exact eq_runs (fun d => by simp [Op.equalIn, run_underlying hu]) (fun h => by simp [binOp, h]) (fun h => by simp [binOp, h]) (fun op => by unfold eqGuard; cases op <;> simp)
      | nilFunc =>
        obtain rfl := vy.out
        simp only [nilT, Option.some.injEq] at hy
        subst hx; subst hy
        exact eq_runs (fun d => by simp [Op.equalIn, run_underlying hu]) (fun h => by simp [binOp, h]) (fun h => by simp [binOp, h]) (fun op => by unfold eqGuard; cases op <;> simp)
      | _ => simp [nilT] at hy
    | _ => simp [nilT] at hx
  | _ => rw [hd] at hx; cases x <;> simp [nilT] at hx
theorem nilC_some {x y : Option Bool} {neg : Bool} {r : Value} (h : nilC x y neg = some r) : ∃ a b, x = some a ∧ y = some b ∧ (a || b) = true ∧ r = .bool (xor neg (a && b)) := by
  unfold nilC at h
  split at h
  · rename_i a b
    cases hab : (a || b) with
    | false => rw [hab] at h; simp at h
    | true => rw [hab] at h; simp only [cond_true, Option.some.injEq] at h; exact ⟨a, b, rfl, rfl, hab, h.symm⟩
  · simp at h
theorem bin_did (hE : EnvOk P Γ) (hr : Rel σ V s w) {ρ ρ' : Operand → Value} {o : Oper} {op : BinOp} {t yt : TypeId} {x y : Operand} (ho : o.op = .binOp op t x y yt) (h : opBin P Γ ρ o s t op (ρ x) (ρ y) = some (v, s')) (hρ : ∀ x, x ∈ o.op.operands.toList → VR σ (ρ x) (ρ' x)) :
    Did σ V s w ((execOp ρ' o).run P w) v s' := by
  have vx : VR σ (ρ x) (ρ' x) := hρ x (by rw [ho]; simp [Op.operands])
  have vy : VR σ (ρ y) (ρ' y) := hρ y (by rw [ho]; simp [Op.operands])
  unfold opBin at h
  split at h
  · rename_i v1 hb
    simp only [Option.some.injEq, Prod.mk.injEq] at h
    obtain ⟨rfl, rfl⟩ := h
    obtain ⟨h1, h2, h3⟩ := binC_run (P := P) (w := w) (t := t) (x := x) (y := y) hb vx vy
    refine Did.same hr ?_ h3
    simp [execOp, ho, h1, h2]
  · refine orPure_did hr (by intro cs b; rw [ho]; simp) h hρ ?_
    intro r hq
    unfold eqC at hq
    cases hi : Γ.ti.at t with
    | none => rw [hi] at hq; simp at hq
    | some i =>
      rw [hi] at hq
      simp only at hq
      have hti := hE.ti _ _ hi
      split at hq
      · obtain ⟨a, b, e1, e2, e3, rfl⟩ := nilC_some hq
        obtain ⟨h1, h2, h3⟩ := nilT_run (P := P) (w := w) hti e1 e2 e3 vx vy x y
        refine ⟨?_, VR.ofBool _⟩
        simp [execOp, ho, h1, h3]
      · obtain ⟨a, b, e1, e2, e3, rfl⟩ := nilC_some hq
        obtain ⟨h1, h2, h3⟩ := nilT_run (P := P) (w := w) hti e1 e2 e3 vx vy x y
        refine ⟨?_, VR.ofBool _⟩
        simp [execOp, ho, h2, h3]
      · simp at hq
end
end Go.Proofs.YtcmfoipnoejmlaaDoor
