/- The plain machine by hand, third part: numbers. Each operation on integers gives what the model's does, for whatever numbers. No program in sight. -/
import Derived.Test.YtcmfoipnoejmlaaDoorCm24
namespace Go.Proofs.YtcmfoipnoejmlaaDoor
open Go Go.RowKit
section
variable {P : Program} {Γ : Env} {ρ : Operand → Value} {s : CS} {d : Option Tmp} {ty : TypeId} {pos : String} {t t2 : TypeId} {x y : Operand}
theorem nilT_int (d : TypeDesc) (k : IntKind) (n : Int) : nilT d (.int k n) = none := by cases d <;> rfl
theorem eqC_int (op : BinOp) (k : IntKind) (n : Int) (v : Value) : eqC Γ t op (.int k n) v = none := by
  unfold eqC
  cases Γ.ti.at t with
  | none => rfl
  | some i => cases op <;> first | rfl | (simp only [nilT_int]; rfl)
theorem eqGuard_nat (op : BinOp) (k k' : IntKind) (m n : Int) : eqGuard op t x y (.int k m) (.int k' n) = pure () := by
  unfold eqGuard
  cases op <;> simp
theorem opBin_pure {op : BinOp} {k k' : IntKind} {a b : Int} {r : Value} {o : Oper} (ho : o.op = .binOp op t x y t2) (hx : ρ x = .int k a) (hy : ρ y = .int k' b) (w : World)
    (hr : binOp op t (.int k a) (.int k' b) = pure r) (hp : plainV 3 r = true) : opBin P Γ ρ o s t op (.int k a) (.int k' b) = some (r, s) := by
  unfold opBin
  cases hc : binC op (.int k a) (.int k' b) with
  | some v =>
    have h1 := (binC_run (σ := fun _ _ => none) (P := P) (t := t) (x := x) (y := y) (w := w) hc (VR.ofInt _ _) (VR.ofInt _ _)).2.1
    rw [hr] at h1
    simp at h1
    simp only [h1]
  | none =>
    rw [eqC_int]
    simp only [orPure]
    unfold pureC
    have hops : (o.op.operands.toList.all fun z => plainV 3 (ρ z)) = true := by
      rw [ho]
      simp [Op.operands, hx, hy, plainV]
    rw [hops]
    have he : execOp ρ o = pure (.value r) := by
      unfold execOp
      rw [ho]
      simp only [hx, hy, eqGuard_nat, hr]
      simp
    rw [he]
    simp only [cond_true]
    show retC s (bif plainV 3 r then some r else none) = some (r, s)
    rw [hp]
    rfl
variable {e : Array Edge} {g : Option (Nat × Bool)} {k k' : IntKind} {a b : Int}
/-- n is a number of the kind -/
def inK (k : IntKind) (n : Int) : Prop := k.wrap n = n
theorem inK_i64 {n : Int} (h : -9223372036854775808 ≤ n ∧ n ≤ 9223372036854775807) : inK .i64 n := by unfold inK; simp [IntKind.wrap, IntKind.bits, IntKind.signed]; omega
theorem inK_u64 {n : Int} (h : 0 ≤ n ∧ n ≤ 18446744073709551615) : inK .u64 n := by unfold inK; simp [IntKind.wrap, IntKind.bits, IntKind.signed]; omega
theorem inK_u32 {n : Int} (h : 0 ≤ n ∧ n ≤ 4294967295) : inK .u32 n := by unfold inK; simp [IntKind.wrap, IntKind.bits, IntKind.signed]; omega
theorem inK_u8 {n : Int} (h : 0 ≤ n ∧ n ≤ 255) : inK .u8 n := by unfold inK; simp [IntKind.wrap, IntKind.bits, IntKind.signed]; omega
theorem oi_add (hx : ρ x = .int k a) (hy : ρ y = .int k b) (h : inK k (a + b)) : opBin P Γ ρ ⟨d, .binOp .add t x y t2, ty, pos, e, g⟩ s t .add (.int k a) (.int k b) = some (.int k (a + b), s) :=
  opBin_pure rfl hx hy default (by simp only [binOp, Op.intArith, ne_eq, not_true, if_false]; rw [h]) rfl
theorem ow_add (hx : ρ x = .int k a) (hy : ρ y = .int k b) : opBin P Γ ρ ⟨d, .binOp .add t x y t2, ty, pos, e, g⟩ s t .add (.int k a) (.int k b) = some (.int k (k.wrap (a + b)), s) :=
  opBin_pure rfl hx hy default (by simp only [binOp, Op.intArith, ne_eq, not_true, if_false]) rfl
theorem oi_sub (hx : ρ x = .int k a) (hy : ρ y = .int k b) (h : inK k (a - b)) : opBin P Γ ρ ⟨d, .binOp .sub t x y t2, ty, pos, e, g⟩ s t .sub (.int k a) (.int k b) = some (.int k (a - b), s) :=
  opBin_pure rfl hx hy default (by simp only [binOp, Op.intArith, ne_eq, not_true, if_false]; rw [h]) rfl
theorem ow_sub (hx : ρ x = .int k a) (hy : ρ y = .int k b) : opBin P Γ ρ ⟨d, .binOp .sub t x y t2, ty, pos, e, g⟩ s t .sub (.int k a) (.int k b) = some (.int k (k.wrap (a - b)), s) :=
  opBin_pure rfl hx hy default (by simp only [binOp, Op.intArith, ne_eq, not_true, if_false]) rfl
theorem oi_mul (hx : ρ x = .int k a) (hy : ρ y = .int k b) (h : inK k (a * b)) : opBin P Γ ρ ⟨d, .binOp .mul t x y t2, ty, pos, e, g⟩ s t .mul (.int k a) (.int k b) = some (.int k (a * b), s) :=
  opBin_pure rfl hx hy default (by simp only [binOp, Op.intArith, ne_eq, not_true, if_false]; rw [h]) rfl
theorem ow_mul (hx : ρ x = .int k a) (hy : ρ y = .int k b) : opBin P Γ ρ ⟨d, .binOp .mul t x y t2, ty, pos, e, g⟩ s t .mul (.int k a) (.int k b) = some (.int k (k.wrap (a * b)), s) :=
  opBin_pure rfl hx hy default (by simp only [binOp, Op.intArith, ne_eq, not_true, if_false]) rfl
theorem oi_eql (hx : ρ x = .int k a) (hy : ρ y = .int k b) : opBin P Γ ρ ⟨d, .binOp .eql t x y t2, ty, pos, e, g⟩ s t .eql (.int k a) (.int k b) = some (.bool (decide (a = b)), s) :=
  opBin_pure rfl hx hy default (by simp [binOp, Op.intCmp]; rfl) rfl
theorem oi_neq (hx : ρ x = .int k a) (hy : ρ y = .int k b) : opBin P Γ ρ ⟨d, .binOp .neq t x y t2, ty, pos, e, g⟩ s t .neq (.int k a) (.int k b) = some (.bool (decide (a ≠ b)), s) :=
  opBin_pure rfl hx hy default (by simp [binOp, Op.intCmp] <;> rfl) rfl
theorem oi_lss (hx : ρ x = .int k a) (hy : ρ y = .int k b) : opBin P Γ ρ ⟨d, .binOp .lss t x y t2, ty, pos, e, g⟩ s t .lss (.int k a) (.int k b) = some (.bool (decide (a < b)), s) :=
  opBin_pure rfl hx hy default (by simp [binOp, Op.intCmp]) rfl
theorem oi_leq (hx : ρ x = .int k a) (hy : ρ y = .int k b) : opBin P Γ ρ ⟨d, .binOp .leq t x y t2, ty, pos, e, g⟩ s t .leq (.int k a) (.int k b) = some (.bool (decide (a ≤ b)), s) :=
  opBin_pure rfl hx hy default (by simp [binOp, Op.intCmp]) rfl
theorem oi_gtr (hx : ρ x = .int k a) (hy : ρ y = .int k b) : opBin P Γ ρ ⟨d, .binOp .gtr t x y t2, ty, pos, e, g⟩ s t .gtr (.int k a) (.int k b) = some (.bool (decide (b < a)), s) :=
  opBin_pure rfl hx hy default (by simp [binOp, Op.intCmp]) rfl
theorem oi_geq (hx : ρ x = .int k a) (hy : ρ y = .int k b) : opBin P Γ ρ ⟨d, .binOp .geq t x y t2, ty, pos, e, g⟩ s t .geq (.int k a) (.int k b) = some (.bool (decide (b ≤ a)), s) :=
  opBin_pure rfl hx hy default (by simp [binOp, Op.intCmp]) rfl
theorem oi_quo (hx : ρ x = .int k a) (hy : ρ y = .int k b) (h0 : 0 ≤ a) (h1 : 0 < b) (h : inK k (a / b)) : opBin P Γ ρ ⟨d, .binOp .quo t x y t2, ty, pos, e, g⟩ s t .quo (.int k a) (.int k b) = some (.int k (a / b), s) :=
  opBin_pure rfl hx hy default (by simp only [binOp, Op.intDiv, ne_eq, not_true, if_false]; rw [if_neg (by omega)]; rw [Int.tdiv_eq_ediv_of_nonneg h0, h]) rfl
theorem oi_rem (hx : ρ x = .int k a) (hy : ρ y = .int k b) (h0 : 0 ≤ a) (h1 : 0 < b) : opBin P Γ ρ ⟨d, .binOp .rem t x y t2, ty, pos, e, g⟩ s t .rem (.int k a) (.int k b) = some (.int k (a % b), s) :=
  opBin_pure rfl hx hy default (by simp only [binOp, Op.intDiv, ne_eq, not_true, if_false]; rw [if_neg (by omega)]; rw [Int.tmod_eq_emod_of_nonneg h0]) rfl
theorem ow_and (hx : ρ x = .int k a) (hy : ρ y = .int k b) : opBin P Γ ρ ⟨d, .binOp .and t x y t2, ty, pos, e, g⟩ s t .and (.int k a) (.int k b) = some (.int k (k.wrap (BitVec.ofInt k.bits a &&& BitVec.ofInt k.bits b).toNat), s) :=
  opBin_pure rfl hx hy default (by simp only [binOp, Op.intBits, ne_eq, not_true, if_false]) rfl
theorem ow_or (hx : ρ x = .int k a) (hy : ρ y = .int k b) : opBin P Γ ρ ⟨d, .binOp .or t x y t2, ty, pos, e, g⟩ s t .or (.int k a) (.int k b) = some (.int k (k.wrap (BitVec.ofInt k.bits a ||| BitVec.ofInt k.bits b).toNat), s) :=
  opBin_pure rfl hx hy default (by simp only [binOp, Op.intBits, ne_eq, not_true, if_false]) rfl
theorem ow_xor (hx : ρ x = .int k a) (hy : ρ y = .int k b) : opBin P Γ ρ ⟨d, .binOp .xor t x y t2, ty, pos, e, g⟩ s t .xor (.int k a) (.int k b) = some (.int k (k.wrap (BitVec.ofInt k.bits a ^^^ BitVec.ofInt k.bits b).toNat), s) :=
  opBin_pure rfl hx hy default (by simp only [binOp, Op.intBits, ne_eq, not_true, if_false]) rfl
theorem ow_shl (hx : ρ x = .int k a) (hy : ρ y = .int k' b) (h0 : 0 ≤ b) : opBin P Γ ρ ⟨d, .binOp .shl t x y t2, ty, pos, e, g⟩ s t .shl (.int k a) (.int k' b) = some (.int k (k.wrap (a * 2 ^ (min b.toNat k.bits))), s) :=
  opBin_pure rfl hx hy default (by simp only [binOp, Op.shift]; rw [if_neg (by omega)]) rfl
theorem ow_shr (hx : ρ x = .int k a) (hy : ρ y = .int k' b) (h0 : 0 ≤ b) : opBin P Γ ρ ⟨d, .binOp .shr t x y t2, ty, pos, e, g⟩ s t .shr (.int k a) (.int k' b) = some (.int k (a.fdiv (2 ^ (min b.toNat k.bits))), s) :=
  opBin_pure rfl hx hy default (by simp only [binOp, Op.shift]; rw [if_neg (by omega)]) rfl
/-- an operation that asks nothing of memory -/
theorem pureC_of {o : Oper} {r : Value} (hops : (o.op.operands.toList.all fun z => plainV 3 (ρ z)) = true) (he : execOp ρ o = pure (.value r)) (hp : plainV 3 r = true) : pureC P ρ o = some r := by
  unfold pureC
  rw [hops, he]
  simp only [cond_true]
  show (bif plainV 3 r then some r else none) = some r
  rw [hp]; rfl
theorem ou_neg (hx : ρ x = .int k a) : orPure P ρ ⟨d, .unOp .neg t x, ty, pos, e, g⟩ s (unC .neg (.int k a)) = some (.int k (k.wrap (0 - a)), s) := by
  show retC s (pureC P ρ _) = _
  rw [pureC_of (r := .int k (k.wrap (0 - a)))]
  · rfl
  · simp [Op.operands, hx, plainV]
  · simp [execOp, hx, Op.unary, Op.intArith]
  · rfl
theorem ou_xor (hx : ρ x = .int k a) : orPure P ρ ⟨d, .unOp .xor t x, ty, pos, e, g⟩ s (unC .xor (.int k a)) = some (.int k (k.wrap (BitVec.ofInt k.bits (if k.signed then -1 else k.max) ^^^ BitVec.ofInt k.bits a).toNat), s) := by
  show retC s (pureC P ρ _) = _
  rw [pureC_of (r := .int k (k.wrap (BitVec.ofInt k.bits (if k.signed then -1 else k.max) ^^^ BitVec.ofInt k.bits a).toNat))]
  · rfl
  · simp [Op.operands, hx, plainV]
  · simp [execOp, hx, Op.unary, Op.intBits]
  · rfl
theorem eval0_bind {α β : Type} {f : α → Sem β} : ∀ {m : Sem α} {v : α}, eval0 P m = some v → eval0 P (m >>= f) = eval0 P (f v) := by
  intro m
  induction m with
  | pure a => intro v h; simp only [eval0, Option.some.injEq] at h; subst h; rfl
  | program k ih => intro v h; exact ih P h
  | _ => intro v h; simp [eval0] at h
theorem eval0_underlying {dt : TypeDesc} (h : P.underlying t = some dt) : eval0 P (underlying t) = some dt := by
  unfold underlying
  show eval0 P ((program : Sem Program) >>= _) = _
  rw [eval0_bind (v := P) rfl]
  rw [h]
  rfl
theorem oc_int {src dst : TypeId} (hx : ∃ k, ρ x = .int k a) (hs : (P.underlying src).isSome = true) (hd : P.underlying dst = some (.int k')) : orPure P ρ ⟨d, .convert src dst x, ty, pos, e, g⟩ s (convI k' a) = some (.int k' (k'.wrap a), s) := by
  obtain ⟨k, hx⟩ := hx
  obtain ⟨sd, hs⟩ := Option.isSome_iff_exists.1 hs
  have h : eval0 P (convert src dst (.int k a)) = some (.int k' (k'.wrap a)) := by
    unfold convert
    rw [eval0_bind (eval0_underlying hs), eval0_bind (eval0_underlying hd)]
    cases sd <;> rfl
  cases hc : convI k' a with
  | some v =>
    unfold convI at hc
    split at hc
    · obtain ⟨h1, rfl⟩ := natI_some hc
      have := wrap_nat k' _ (blt_iff.1 h1)
      simp only [orPure]
      rw [← this]; rfl
    · simp at hc
  | none =>
    show retC s (pureC P ρ _) = _
    unfold pureC
    rw [show (((⟨d, .convert src dst x, ty, pos, e, g⟩ : Oper).op.operands.toList.all fun z => plainV 3 (ρ z)) = true) by simp [Op.operands, hx, plainV]]
    have he : eval0 P (execOp ρ ⟨d, .convert src dst x, ty, pos, e, g⟩) = some (.value (.int k' (k'.wrap a))) := by
      unfold execOp
      simp only [hx]
      rw [eval0_bind h]
      rfl
    rw [he]
    rfl
end
end Go.Proofs.YtcmfoipnoejmlaaDoor
