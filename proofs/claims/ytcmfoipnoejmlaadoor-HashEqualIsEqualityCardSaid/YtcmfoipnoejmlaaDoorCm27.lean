/- The plain machine by hand, fifth part: words of 32, 8 and 64 bits. No program in sight. -/
import Derived.Test.YtcmfoipnoejmlaaDoorCm26
namespace Go.Proofs.YtcmfoipnoejmlaaDoor
open Go Go.RowKit
/-- a word, a byte, a long word -/
def vw (x : UInt32) : Value := .int .u32 (x.toNat : Int)
def vb (x : UInt8) : Value := .int .u8 (x.toNat : Int)
def vq (x : UInt64) : Value := .int .u64 (x.toNat : Int)
def shl32 (x : UInt32) (n : Nat) : UInt32 := UInt32.ofBitVec (x.toBitVec <<< n)
def shr32 (x : UInt32) (n : Nat) : UInt32 := UInt32.ofBitVec (x.toBitVec >>> n)
def shl64 (x : UInt64) (n : Nat) : UInt64 := UInt64.ofBitVec (x.toBitVec <<< n)
def shr64 (x : UInt64) (n : Nat) : UInt64 := UInt64.ofBitVec (x.toBitVec >>> n)
theorem wrap32 (n : Nat) : IntKind.u32.wrap (n : Int) = ((n % 4294967296 : Nat) : Int) := by simp [IntKind.wrap, IntKind.bits, IntKind.signed]
theorem wrap8 (n : Nat) : IntKind.u8.wrap (n : Int) = ((n % 256 : Nat) : Int) := by simp [IntKind.wrap, IntKind.bits, IntKind.signed]
theorem wrap64 (n : Nat) : IntKind.u64.wrap (n : Int) = ((n % 18446744073709551616 : Nat) : Int) := by simp [IntKind.wrap, IntKind.bits, IntKind.signed]
theorem bv32 (x : UInt32) : BitVec.ofInt IntKind.u32.bits (x.toNat : Int) = x.toBitVec := by
  show BitVec.ofInt 32 _ = _
  rw [BitVec.ofInt_natCast]; exact BitVec.ofNat_toNat _ _ ▸ by simp [← UInt32.toNat_toBitVec]
theorem bv8 (x : UInt8) : BitVec.ofInt IntKind.u8.bits (x.toNat : Int) = x.toBitVec := by
  show BitVec.ofInt 8 _ = _
  rw [BitVec.ofInt_natCast]; simp [← UInt8.toNat_toBitVec]
theorem bv64 (x : UInt64) : BitVec.ofInt IntKind.u64.bits (x.toNat : Int) = x.toBitVec := by
  show BitVec.ofInt 64 _ = _
  rw [BitVec.ofInt_natCast]; simp [← UInt64.toNat_toBitVec]
theorem wrapb32 (r : BitVec 32) : IntKind.u32.wrap (r.toNat : Int) = (r.toNat : Int) := by rw [wrap32, Nat.mod_eq_of_lt r.isLt]
theorem wrapb8 (r : BitVec 8) : IntKind.u8.wrap (r.toNat : Int) = (r.toNat : Int) := by rw [wrap8, Nat.mod_eq_of_lt r.isLt]
theorem wrapb64 (r : BitVec 64) : IntKind.u64.wrap (r.toNat : Int) = (r.toNat : Int) := by rw [wrap64, Nat.mod_eq_of_lt r.isLt]
section
variable {P : Program} {Γ : Env} {ρ : Operand → Value} {s : CS} {d : Option Tmp} {ty : TypeId} {pos : String} {t t2 : TypeId} {x y : Operand} {e : Array Edge} {g : Option (Nat × Bool)}
theorem bw_and {a b : UInt32} (hx : ρ x = vw a) (hy : ρ y = vw b) : opBin P Γ ρ ⟨d, .binOp .and t x y t2, ty, pos, e, g⟩ s t .and (vw a) (vw b) = some (vw (a &&& b), s) := by
  unfold vw at hx hy ⊢
  rw [ow_and hx hy]
  rw [bv32, bv32]; exact congrArg (fun n => some (Value.int .u32 n, s)) (wrapb32 _)
theorem bw_or {a b : UInt32} (hx : ρ x = vw a) (hy : ρ y = vw b) : opBin P Γ ρ ⟨d, .binOp .or t x y t2, ty, pos, e, g⟩ s t .or (vw a) (vw b) = some (vw (a ||| b), s) := by
  unfold vw at hx hy ⊢
  rw [ow_or hx hy]
  rw [bv32, bv32]; exact congrArg (fun n => some (Value.int .u32 n, s)) (wrapb32 _)
theorem bw_xor {a b : UInt32} (hx : ρ x = vw a) (hy : ρ y = vw b) : opBin P Γ ρ ⟨d, .binOp .xor t x y t2, ty, pos, e, g⟩ s t .xor (vw a) (vw b) = some (vw (a ^^^ b), s) := by
  unfold vw at hx hy ⊢
  rw [ow_xor hx hy]
  rw [bv32, bv32]; exact congrArg (fun n => some (Value.int .u32 n, s)) (wrapb32 _)
theorem bw_add {a b : UInt32} (hx : ρ x = vw a) (hy : ρ y = vw b) : opBin P Γ ρ ⟨d, .binOp .add t x y t2, ty, pos, e, g⟩ s t .add (vw a) (vw b) = some (vw (a + b), s) := by
  unfold vw at hx hy ⊢
  rw [ow_add hx hy]
  rw [← Int.natCast_add, wrap32, UInt32.toNat_add]
theorem bw_mul {a b : UInt32} (hx : ρ x = vw a) (hy : ρ y = vw b) : opBin P Γ ρ ⟨d, .binOp .mul t x y t2, ty, pos, e, g⟩ s t .mul (vw a) (vw b) = some (vw (a * b), s) := by
  unfold vw at hx hy ⊢
  rw [ow_mul hx hy]
  rw [← Int.natCast_mul, wrap32, UInt32.toNat_mul]
theorem bw_shl {a : UInt32} {k : IntKind} {n : Nat} (hx : ρ x = vw a) (hy : ρ y = .int k (n : Int)) : opBin P Γ ρ ⟨d, .binOp .shl t x y t2, ty, pos, e, g⟩ s t .shl (vw a) (.int k (n : Int)) = some (vw (shl32 a n), s) := by
  unfold vw at hx ⊢
  rw [ow_shl hx hy (by omega)]
  refine congrArg (fun n => some (Value.int .u32 n, s)) ?_
  show IntKind.u32.wrap ((a.toNat : Int) * 2 ^ (min n 32)) = ((a.toBitVec <<< n).toNat : Int)
  rw [show ((a.toNat : Int) * 2 ^ (min n 32)) = ((a.toNat * 2 ^ (min n 32) : Nat) : Int) by simp, wrap32, BitVec.toNat_shiftLeft, Nat.shiftLeft_eq]
  congr 1
  by_cases h : n ≤ 32
  · rw [Nat.min_eq_left h]; rfl
  · rw [Nat.min_eq_right (by omega)]
    have h1 : 2 ^ n = 2 ^ 32 * 2 ^ (n - 32) := by rw [← Nat.pow_add]; congr 1; omega
    rw [h1, ← Nat.mul_assoc, Nat.mul_right_comm]
    show a.toNat * 2 ^ 32 % 2 ^ 32 = _ * 2 ^ 32 % 2 ^ 32
    rw [Nat.mul_mod_left, Nat.mul_mod_left]
theorem bw_shr {a : UInt32} {k : IntKind} {n : Nat} (hx : ρ x = vw a) (hy : ρ y = .int k (n : Int)) : opBin P Γ ρ ⟨d, .binOp .shr t x y t2, ty, pos, e, g⟩ s t .shr (vw a) (.int k (n : Int)) = some (vw (shr32 a n), s) := by
  unfold vw at hx ⊢
  rw [ow_shr hx hy (by omega)]
  refine congrArg (fun n => some (Value.int .u32 n, s)) ?_
  show (a.toNat : Int).fdiv (2 ^ (min n 32)) = ((a.toBitVec >>> n).toNat : Int)
  rw [Int.fdiv_eq_ediv_of_nonneg _ (Int.pow_nonneg (by omega)), BitVec.toNat_ushiftRight, Nat.shiftRight_eq_div_pow]
  rw [show ((2 : Int) ^ (min n 32)) = ((2 ^ (min n 32) : Nat) : Int) by simp, ← Int.natCast_ediv]
  congr 1
  by_cases h : n ≤ 32
  · rw [Nat.min_eq_left h]; rfl
  · rw [Nat.min_eq_right (by omega)]
    have h2 : a.toNat < 2 ^ 32 := a.toBitVec.isLt
    have h3 : 2 ^ 32 ≤ 2 ^ n := Nat.pow_le_pow_right (by omega) (by omega)
    rw [Nat.div_eq_of_lt h2]
    exact (Nat.div_eq_of_lt (Nat.lt_of_lt_of_le h2 h3)).symm
theorem bb_and {a b : UInt8} (hx : ρ x = vb a) (hy : ρ y = vb b) : opBin P Γ ρ ⟨d, .binOp .and t x y t2, ty, pos, e, g⟩ s t .and (vb a) (vb b) = some (vb (a &&& b), s) := by
  unfold vb at hx hy ⊢
  rw [ow_and hx hy]
  rw [bv8, bv8]; exact congrArg (fun n => some (Value.int .u8 n, s)) (wrapb8 _)
theorem bb_or {a b : UInt8} (hx : ρ x = vb a) (hy : ρ y = vb b) : opBin P Γ ρ ⟨d, .binOp .or t x y t2, ty, pos, e, g⟩ s t .or (vb a) (vb b) = some (vb (a ||| b), s) := by
  unfold vb at hx hy ⊢
  rw [ow_or hx hy]
  rw [bv8, bv8]; exact congrArg (fun n => some (Value.int .u8 n, s)) (wrapb8 _)
theorem bb_xor {a b : UInt8} (hx : ρ x = vb a) (hy : ρ y = vb b) : opBin P Γ ρ ⟨d, .binOp .xor t x y t2, ty, pos, e, g⟩ s t .xor (vb a) (vb b) = some (vb (a ^^^ b), s) := by
  unfold vb at hx hy ⊢
  rw [ow_xor hx hy]
  rw [bv8, bv8]; exact congrArg (fun n => some (Value.int .u8 n, s)) (wrapb8 _)
theorem bb_add {a b : UInt8} (hx : ρ x = vb a) (hy : ρ y = vb b) : opBin P Γ ρ ⟨d, .binOp .add t x y t2, ty, pos, e, g⟩ s t .add (vb a) (vb b) = some (vb (a + b), s) := by
  unfold vb at hx hy ⊢
  rw [ow_add hx hy]
  rw [← Int.natCast_add, wrap8, UInt8.toNat_add]
theorem bb_mul {a b : UInt8} (hx : ρ x = vb a) (hy : ρ y = vb b) : opBin P Γ ρ ⟨d, .binOp .mul t x y t2, ty, pos, e, g⟩ s t .mul (vb a) (vb b) = some (vb (a * b), s) := by
  unfold vb at hx hy ⊢
  rw [ow_mul hx hy]
  rw [← Int.natCast_mul, wrap8, UInt8.toNat_mul]
theorem bq_and {a b : UInt64} (hx : ρ x = vq a) (hy : ρ y = vq b) : opBin P Γ ρ ⟨d, .binOp .and t x y t2, ty, pos, e, g⟩ s t .and (vq a) (vq b) = some (vq (a &&& b), s) := by
  unfold vq at hx hy ⊢
  rw [ow_and hx hy]
  rw [bv64, bv64]; exact congrArg (fun n => some (Value.int .u64 n, s)) (wrapb64 _)
theorem bq_or {a b : UInt64} (hx : ρ x = vq a) (hy : ρ y = vq b) : opBin P Γ ρ ⟨d, .binOp .or t x y t2, ty, pos, e, g⟩ s t .or (vq a) (vq b) = some (vq (a ||| b), s) := by
  unfold vq at hx hy ⊢
  rw [ow_or hx hy]
  rw [bv64, bv64]; exact congrArg (fun n => some (Value.int .u64 n, s)) (wrapb64 _)
theorem bq_xor {a b : UInt64} (hx : ρ x = vq a) (hy : ρ y = vq b) : opBin P Γ ρ ⟨d, .binOp .xor t x y t2, ty, pos, e, g⟩ s t .xor (vq a) (vq b) = some (vq (a ^^^ b), s) := by
  unfold vq at hx hy ⊢
  rw [ow_xor hx hy]
  rw [bv64, bv64]; exact congrArg (fun n => some (Value.int .u64 n, s)) (wrapb64 _)
theorem bq_add {a b : UInt64} (hx : ρ x = vq a) (hy : ρ y = vq b) : opBin P Γ ρ ⟨d, .binOp .add t x y t2, ty, pos, e, g⟩ s t .add (vq a) (vq b) = some (vq (a + b), s) := by
  unfold vq at hx hy ⊢
  rw [ow_add hx hy]
  rw [← Int.natCast_add, wrap64, UInt64.toNat_add]
theorem bq_mul {a b : UInt64} (hx : ρ x = vq a) (hy : ρ y = vq b) : opBin P Γ ρ ⟨d, .binOp .mul t x y t2, ty, pos, e, g⟩ s t .mul (vq a) (vq b) = some (vq (a * b), s) := by
  unfold vq at hx hy ⊢
  rw [ow_mul hx hy]
  rw [← Int.natCast_mul, wrap64, UInt64.toNat_mul]
theorem bq_shl {a : UInt64} {k : IntKind} {n : Nat} (hx : ρ x = vq a) (hy : ρ y = .int k (n : Int)) : opBin P Γ ρ ⟨d, .binOp .shl t x y t2, ty, pos, e, g⟩ s t .shl (vq a) (.int k (n : Int)) = some (vq (shl64 a n), s) := by
  unfold vq at hx ⊢
  rw [ow_shl hx hy (by omega)]
  refine congrArg (fun n => some (Value.int .u64 n, s)) ?_
  show IntKind.u64.wrap ((a.toNat : Int) * 2 ^ (min n 64)) = ((a.toBitVec <<< n).toNat : Int)
  rw [show ((a.toNat : Int) * 2 ^ (min n 64)) = ((a.toNat * 2 ^ (min n 64) : Nat) : Int) by simp, wrap64, BitVec.toNat_shiftLeft, Nat.shiftLeft_eq]
  congr 1
  by_cases h : n ≤ 64
  · rw [Nat.min_eq_left h]; rfl
  · rw [Nat.min_eq_right (by omega)]
    have h1 : 2 ^ n = 2 ^ 64 * 2 ^ (n - 64) := by rw [← Nat.pow_add]; congr 1; omega
    rw [h1, ← Nat.mul_assoc, Nat.mul_right_comm]
    show a.toNat * 2 ^ 64 % 2 ^ 64 = _ * 2 ^ 64 % 2 ^ 64
    rw [Nat.mul_mod_left, Nat.mul_mod_left]
theorem bq_shr {a : UInt64} {k : IntKind} {n : Nat} (hx : ρ x = vq a) (hy : ρ y = .int k (n : Int)) : opBin P Γ ρ ⟨d, .binOp .shr t x y t2, ty, pos, e, g⟩ s t .shr (vq a) (.int k (n : Int)) = some (vq (shr64 a n), s) := by
  unfold vq at hx ⊢
  rw [ow_shr hx hy (by omega)]
  refine congrArg (fun n => some (Value.int .u64 n, s)) ?_
  show (a.toNat : Int).fdiv (2 ^ (min n 64)) = ((a.toBitVec >>> n).toNat : Int)
  rw [Int.fdiv_eq_ediv_of_nonneg _ (Int.pow_nonneg (by omega)), BitVec.toNat_ushiftRight, Nat.shiftRight_eq_div_pow]
  rw [show ((2 : Int) ^ (min n 64)) = ((2 ^ (min n 64) : Nat) : Int) by simp, ← Int.natCast_ediv]
  congr 1
  by_cases h : n ≤ 64
  · rw [Nat.min_eq_left h]; rfl
  · rw [Nat.min_eq_right (by omega)]
    have h2 : a.toNat < 2 ^ 64 := a.toBitVec.isLt
    have h3 : 2 ^ 64 ≤ 2 ^ n := Nat.pow_le_pow_right (by omega) (by omega)
    rw [Nat.div_eq_of_lt h2]
    exact (Nat.div_eq_of_lt (Nat.lt_of_lt_of_le h2 h3)).symm
theorem bw_not {a : UInt32} (hx : ρ x = vw a) : orPure P ρ ⟨d, .unOp .xor t x, ty, pos, e, g⟩ s (unC .xor (vw a)) = some (vw (~~~a), s) := by
  unfold vw at hx ⊢
  rw [ou_xor hx, bv32]
  refine congrArg (fun n => some (Value.int .u32 n, s)) ?_
  have : BitVec.ofInt 32 (if IntKind.u32.signed then -1 else IntKind.u32.max) ^^^ a.toBitVec = ~~~a.toBitVec := by
    rw [show (BitVec.ofInt 32 (if IntKind.u32.signed then -1 else IntKind.u32.max)) = BitVec.allOnes 32 by decide, BitVec.allOnes_xor]
  show IntKind.u32.wrap ((BitVec.ofInt 32 (if IntKind.u32.signed then -1 else IntKind.u32.max) ^^^ a.toBitVec).toNat : Int) = _
  rw [this]
  exact wrapb32 _
/-- conversions, by the wrap -/
theorem cw_b (x : UInt8) : Value.int .u32 (IntKind.u32.wrap (x.toNat : Int)) = vw x.toUInt32 := by
  unfold vw; rw [wrap32, UInt8.toNat_toUInt32, Nat.mod_eq_of_lt (by have := x.toNat_lt; omega)]
theorem cb_w (x : UInt32) : Value.int .u8 (IntKind.u8.wrap (x.toNat : Int)) = vb x.toUInt8 := by
  unfold vb; rw [wrap8, UInt32.toNat_toUInt8]
theorem cb_q (x : UInt64) : Value.int .u8 (IntKind.u8.wrap (x.toNat : Int)) = vb x.toUInt8 := by
  unfold vb; rw [wrap8, UInt64.toNat_toUInt8]
end
end Go.Proofs.YtcmfoipnoejmlaaDoor
