/- Plain maths of the integers' encoding, for the plain machine. No program in sight. -/
import Derived.Test.YtcmfoipnoejmlaaDoorWireMath
import Derived.Test.YtcmfoipnoejmlaaDoorCmC
import Derived.Laws.Bits64
namespace Go.Proofs.YtcmfoipnoejmlaaDoor
open Go Go.RowKit WM
theorem px_zero_u64 (a : Nat) (ha : a < 18446744073709551616) : bits .xor .u64 (a : Int) 0 = a := by
  have := bits_xor_u64_nat a 0 ha (by decide)
  simpa using this
theorem px_ones_nat (b : Nat) (hb : b < 2 ^ 64) : b ^^^ (2 ^ 64 - 1) = 2 ^ 64 - 1 - b := by
  apply Nat.eq_of_testBit_eq
  intro i
  rw [Nat.testBit_xor, Nat.testBit_two_pow_sub_one, show 2 ^ 64 - 1 - b = 2 ^ 64 - (b + 1) by omega, Nat.testBit_two_pow_sub_succ hb]
  by_cases hi : i < 64
  · simp [hi]
  · have : b.testBit i = false := Nat.testBit_lt_two_pow (Nat.lt_of_lt_of_le hb (Nat.pow_le_pow_right (by decide) (by omega)))
    simp [hi, this]
/-- uint64(n)<<1 ^ uint64(n>>63) is the zigzag -/
theorem pzig_bits (n : Int) (h1 : -9223372036854775808 ≤ n) (h2 : n ≤ 9223372036854775807) :
    bits BinOp.xor IntKind.u64 (IntKind.u64.wrap (IntKind.u64.wrap n * 2)) (IntKind.u64.wrap (n / 9223372036854775808)) = (zig n : Int) := by
  unfold zig
  by_cases hn : n < 0
  · rw [if_pos hn]
    have e1 : IntKind.u64.wrap (IntKind.u64.wrap n * 2) = (((2 * n + 18446744073709551616).toNat : Nat) : Int) := by
      rw [IntKind.wrap_u64, IntKind.wrap_u64]; omega
    have e2 : IntKind.u64.wrap (n / 9223372036854775808) = ((2 ^ 64 - 1 : Nat) : Int) := by
      rw [show n / 9223372036854775808 = -1 by omega]; decide
    rw [e1, e2, bits_xor_u64_nat _ _ (by omega) (by decide), px_ones_nat _ (by omega)]
    omega
  · rw [if_neg hn]
    have e1 : IntKind.u64.wrap (IntKind.u64.wrap n * 2) = ((n.toNat * 2 : Nat) : Int) := by
      rw [IntKind.wrap_u64, IntKind.wrap_u64]; omega
    have e2 : IntKind.u64.wrap (n / 9223372036854775808) = 0 := by
      rw [show n / 9223372036854775808 = 0 by omega]; decide
    rw [e1, e2, px_zero_u64 _ (by omega)]
theorem por128 (x : Nat) : bits .or .u8 ((x : Int) % 256) 128 = (((UInt8.ofNat (x % 128 + 128)).toNat : Nat) : Int) := by
  rw [show ((x : Int) % 256) = ((x % 256 : Nat) : Int) by omega, show (128 : Int) = ((128 : Nat) : Int) by rfl, u8_or_nat _ _ (by omega) (by decide)]
  rw [toNat_ofNat_lt (by omega)]
  congr 1
  by_cases h : x % 256 < 128
  · rw [Nat.or_comm, nat_join 7 128 (x % 256) (by decide) (by omega)]; omega
  · have e : x % 256 = 128 + (x % 256 - 128) := by omega
    have e2 : 128 ||| (x % 256 - 128) = x % 256 := by rw [nat_join 7 128 _ (by decide) (by omega)]; omega
    rw [← e2, Nat.or_comm, ← Nat.or_assoc, Nat.or_self, nat_join 7 128 _ (by decide) (by omega)]; omega
/-- the same as the plain machine writes it -/
theorem pzig (n : Int) (h1 : -9223372036854775808 ≤ n) (h2 : n ≤ 9223372036854775807) :
    IntKind.u64.wrap (BitVec.ofInt IntKind.u64.bits (IntKind.u64.wrap (IntKind.u64.wrap n * 2 ^ (min (1 : Int).toNat IntKind.u64.bits))) ^^^ BitVec.ofInt IntKind.u64.bits (IntKind.u64.wrap (n.fdiv (2 ^ (min (63 : Int).toNat IntKind.i64.bits))))).toNat = (zig n : Int) := by
  have h := pzig_bits n h1 h2
  rw [← h]
  have e1 : (2 : Int) ^ (min (1 : Int).toNat IntKind.u64.bits) = 2 := by decide
  have e2 : (2 : Int) ^ (min (63 : Int).toNat IntKind.i64.bits) = 9223372036854775808 := by decide
  rw [e1, e2, Int.fdiv_eq_ediv_of_nonneg _ (by decide)]
  rfl
theorem por (x : Nat) : Value.int .u8 (IntKind.u8.wrap (BitVec.ofInt IntKind.u8.bits (IntKind.u8.wrap (x : Int)) ||| BitVec.ofInt IntKind.u8.bits 128).toNat) = vb (UInt8.ofNat (x % 128 + 128)) := by
  have h := por128 x
  unfold vb
  rw [← h]
  rw [show IntKind.u8.wrap (x : Int) = (x : Int) % 256 by rw [IntKind.wrap_u8]]
  rfl
theorem pshr (x : Nat) : Int.fdiv (x : Int) (2 ^ (min (7 : Int).toNat IntKind.u64.bits)) = ((x / 128 : Nat) : Int) := by
  have e2 : (2 : Int) ^ (min (7 : Int).toNat IntKind.u64.bits) = 128 := by decide
  rw [e2, Int.fdiv_eq_ediv_of_nonneg _ (by decide)]
  omega
theorem plow (x : Nat) (h : x < 128) : Value.int .u8 (IntKind.u8.wrap (x : Int)) = vb (UInt8.ofNat x) := by
  unfold vb
  rw [toNat_ofNat_lt (by omega), wrap8]
  congr 2
  omega
end Go.Proofs.YtcmfoipnoejmlaaDoor
