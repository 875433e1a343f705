/- Walks of the integers' encoding: wire.Int and the reference's Int both give 'enc n'. -/
import Derived.Test.YtciamgdigpgneaaProg
import Derived.Test.YtciamgdigpgneaaLib2
import Derived.Test.YtciamgdigpgneaaWireMath
import Derived.Laws.Bits64
namespace Go.Proofs.Ytciamgdigpgneaa
open Go.RowKit WM

theorem inf_u8 : ∃ i, Try.prog.info? 5 = some i ∧ i.zero = some (.int .u8 0) ∧ i.size = 1 ∧ i.bytes = 1 := by
  obtain ⟨i, h1, h2, h3, h4⟩ := info_parts (show (Try.prog.info? 5).map (fun i => (i.zero, i.size, i.bytes)) = some (some (.int .u8 0), 1, 1) by kernel_rfl)
  exact ⟨i, h1, h2, h3, h4⟩

/-- the results of a decoder of an integer -/
def tI (r : Except Int (Int × Nat)) : Value := match r with
  | .ok (n, u) => .tuple #[.int .i64 n, .int .i64 u, .int .i64 0]
  | .error e => .tuple #[.int .i64 0, .int .i64 0, .int .i64 e]
/-- the result of a call that makes bytes -/
def NewBs (w : World) (l : List UInt8) (e : Ending) (w' : World) : Prop := ∃ v, e = .returned v ∧ Own w' w.heap.size 5 1 v l.length (u8s l) ∧ Below w.heap.size w w'

theorem xor_zero_u64 (a : Nat) (ha : a < 18446744073709551616) : bits .xor .u64 (a : Int) 0 = a := by
  have := bits_xor_u64_nat a 0 ha (by decide)
  simpa using this
theorem xor_ones_nat (b : Nat) (hb : b < 2 ^ 64) : b ^^^ (2 ^ 64 - 1) = 2 ^ 64 - 1 - b := by
  apply Nat.eq_of_testBit_eq
  intro i
  rw [Nat.testBit_xor, Nat.testBit_two_pow_sub_one, show 2 ^ 64 - 1 - b = 2 ^ 64 - (b + 1) by omega, Nat.testBit_two_pow_sub_succ hb]
  by_cases hi : i < 64
  · simp [hi]
  · have : b.testBit i = false := Nat.testBit_lt_two_pow (Nat.lt_of_lt_of_le hb (Nat.pow_le_pow_right (by decide) (by omega)))
    simp [hi, this]
/-- uint64(n)<<1 ^ uint64(n>>63) is the zigzag -/
theorem zig_bits (n : Int) (h1 : -9223372036854775808 ≤ n) (h2 : n ≤ 9223372036854775807) :
    bits BinOp.xor IntKind.u64 (IntKind.u64.wrap (IntKind.u64.wrap n * 2)) (IntKind.u64.wrap (n / 9223372036854775808)) = (zig n : Int) := by
  unfold zig
  by_cases hn : n < 0
  · rw [if_pos hn]
    have e1 : IntKind.u64.wrap (IntKind.u64.wrap n * 2) = (((2 * n + 18446744073709551616).toNat : Nat) : Int) := by
      rw [IntKind.wrap_u64, IntKind.wrap_u64]; omega
    have e2 : IntKind.u64.wrap (n / 9223372036854775808) = ((2 ^ 64 - 1 : Nat) : Int) := by
      rw [show n / 9223372036854775808 = -1 by omega]; decide
    rw [e1, e2, bits_xor_u64_nat _ _ (by omega) (by decide), xor_ones_nat _ (by omega)]
    omega
  · rw [if_neg hn]
    have e1 : IntKind.u64.wrap (IntKind.u64.wrap n * 2) = ((n.toNat * 2 : Nat) : Int) := by
      rw [IntKind.wrap_u64, IntKind.wrap_u64]; omega
    have e2 : IntKind.u64.wrap (n / 9223372036854775808) = 0 := by
      rw [show n / 9223372036854775808 = 0 by omega]; decide
    rw [e1, e2, xor_zero_u64 _ (by omega)]
theorem or128 (x : Nat) : bits .or .u8 ((x : Int) % 256) 128 = (((UInt8.ofNat (x % 128 + 128)).toNat : Nat) : Int) := by
  rw [show ((x : Int) % 256) = ((x % 256 : Nat) : Int) by omega, show (128 : Int) = ((128 : Nat) : Int) by rfl, u8_or_nat _ _ (by omega) (by decide)]
  rw [toNat_ofNat_lt (by omega)]
  congr 1
  by_cases h : x % 256 < 128
  · rw [Nat.or_comm, nat_join 7 128 (x % 256) (by decide) (by omega)]; omega
  · have e : x % 256 = 128 + (x % 256 - 128) := by omega
    have e2 : 128 ||| (x % 256 - 128) = x % 256 := by rw [nat_join 7 128 _ (by decide) (by omega)]; omega
    rw [← e2, Nat.or_comm, ← Nat.or_assoc, Nat.or_self, nat_join 7 128 _ (by decide) (by omega)]; omega

set_option maxRecDepth 100000 in
set_option maxHeartbeats 1000000 in
theorem wire_Int (n : Int) (w : World) (h1 : -9223372036854775808 ≤ n) (h2 : n ≤ 9223372036854775807) :
    Calls Try.prog 14 #[.int .i64 n] w (NewBs w (enc n)) := by
  obtain ⟨i5, hi, hz, hs1, hby⟩ := inf_u8
  have hzb := Lib.hid (zig_bits n h1 h2)
  have hzl := zig_lt h1 h2
  obtain ⟨B, hB⟩ : ∃ B, B = w.heap.size := ⟨_, rfl⟩
  have HB := Lib.hid hB
  clear hB
  go_enter Try.func14, Try.ntmps14
  go_wp2
  rw [hzb.out]
  generalize hz0 : zig n = z0 at *
  have Hz0 := Lib.hid hz0
  clear hz0
  go_loopw [3, 4] (fun z v wr => ∃ (zn : Nat) (pre : List UInt8), z = .int .u64 zn ∧ zn < 18446744073709551616 ∧ Own wr B 5 1 v pre.length (u8s pre) ∧ Below B w wr ∧ pre ++ venc zn = venc z0) (fun z _ _ => (intOf z).toNat)
  case atStart => exact ⟨z0, [], rfl, hzl, Own.nil _ _ _ _, Below.refl _ _, rfl⟩
  case round =>
    obtain ⟨zn, pre, rfl, hzn, hown, hbel, heq⟩ := hrel
    have hlen : pre.length ≤ 10 := by have := venc_len64 hzl; rw [← heq] at this; simp at this; omega
    have Heq := Lib.hid heq
    clear heq
    have hBw : B ≤ _ := HB.out ▸ hbel.size
    have Hor := Lib.hid (or128 zn)
    by_cases hlt : zn < 128
    · go_wp2_with (refine wpList_append1 rfl rfl 22 25 _ 28 rfl (by decide) (by simp) rfl rfl 5 i5 _ 1 1 Try.underlying28 hi hz hs1 hby rfl (by decide) (by decide) B _ _ _ rfl hown (.int .u8 _) rfl rfl (one_int _ _) (by omega) (by omega) hBw ?_; intro v' w' hown' hg')
      go_ret
      have hv : venc zn = [UInt8.ofNat zn] := venc_lt hlt
      have he : enc n = pre ++ [UInt8.ofNat zn] := by unfold enc; rw [Hz0.out, ← Heq.out, hv]
      refine ⟨v', rfl, ?_, ?_⟩
      · rw [he, ← HB.out]
        exact own_push hown' (by rw [toNat_ofNat_lt (by omega)])
      · rw [← HB.out]
        exact hown.grew hg' hbel (Nat.le_refl _) hBw
    · go_wp2_with (refine wpList_append1 rfl rfl 16 20 _ 28 rfl (by decide) (by simp) rfl rfl 5 i5 _ 1 1 Try.underlying28 hi hz hs1 hby rfl (by decide) (by decide) B _ _ _ rfl hown (.int .u8 _) rfl rfl (one_int _ _) (by omega) (by omega) hBw ?_; intro v' w' hown' hg')
      go_roundw
      case rel =>
        refine ⟨zn / 128, pre ++ [UInt8.ofNat (zn % 128 + 128)], by go_num, by omega, own_push hown' (Hor.out), hown.grew hg' hbel (Nat.le_refl _) hBw, ?_⟩
        rw [← Heq.out, venc_ge hlt]; simp
      case measure => simp [intOf]; omega

set_option maxRecDepth 100000 in
set_option maxHeartbeats 1000000 in
theorem ref_Int (n : Int) (w : World) (h1 : -9223372036854775808 ≤ n) (h2 : n ≤ 9223372036854775807) :
    Calls Try.prog 15 #[.int .i64 n] w (NewBs w (enc n)) := by
  obtain ⟨i5, hi, hz, hs1, hby⟩ := inf_u8
  have hzl := zig_lt h1 h2
  obtain ⟨B, hB⟩ : ∃ B, B = w.heap.size := ⟨_, rfl⟩
  have HB := Lib.hid hB
  clear hB
  obtain ⟨z0, hz0⟩ : ∃ z0 : Nat, z0 = zig n := ⟨_, rfl⟩
  have Hz0 := Lib.hid hz0.symm
  rw [← hz0] at hzl
  have hn0 : n < 0 ∧ -9223372036854775808 ≤ -1 - n ∧ (-1 - n) * 2 + 1 = (z0 : Int) ∨ ¬ n < 0 ∧ n * 2 = (z0 : Int) := by
    subst hz0; unfold zig; split <;> omega
  clear hz0
  rcases hn0 with ⟨hn, hn2, hn3⟩ | ⟨hn, hn3⟩
  all_goals
    have Hn3 := Lib.hid hn3
    clear hn3
    go_enter Try.func15, Try.ntmps15
    go_wp2
    rw [Hn3.out]
    go_loopw [3, 4] (fun z v wr => ∃ (zn : Nat) (pre : List UInt8), z = .int .u64 zn ∧ zn < 18446744073709551616 ∧ Own wr B 5 1 v pre.length (u8s pre) ∧ Below B w wr ∧ pre ++ venc zn = venc z0) (fun z _ _ => (intOf z).toNat)
    case atStart => exact ⟨z0, [], rfl, hzl, Own.nil _ _ _ _, Below.refl _ _, rfl⟩
    case round =>
      obtain ⟨zn, pre, rfl, hzn, hown, hbel, heq⟩ := hrel
      have hlen : pre.length ≤ 10 := by have := venc_len64 hzl; rw [← heq] at this; simp at this; omega
      have Heq := Lib.hid heq
      clear heq
      have hBw : B ≤ _ := HB.out ▸ hbel.size
      by_cases hlt : zn < 128
      · go_wp2_with (refine wpList_append1 rfl rfl 26 29 _ 28 rfl (by decide) (by simp) rfl rfl 5 i5 _ 1 1 Try.underlying28 hi hz hs1 hby rfl (by decide) (by decide) B _ _ _ rfl hown (.int .u8 _) rfl rfl (one_int _ _) (by omega) (by omega) hBw ?_; intro v' w' hown' hg')
        go_ret
        have hv : venc zn = [UInt8.ofNat zn] := venc_lt hlt
        have he : enc n = pre ++ [UInt8.ofNat zn] := by unfold enc; rw [Hz0.out, ← Heq.out, hv]
        refine ⟨v', rfl, ?_, ?_⟩
        · rw [he, ← HB.out]
          exact own_push hown' (by rw [toNat_ofNat_lt (by omega)])
        · rw [← HB.out]
          exact hown.grew hg' hbel (Nat.le_refl _) hBw
      · go_wp2_with (refine wpList_append1 rfl rfl 17 22 _ 28 rfl (by decide) (by simp) rfl rfl 5 i5 _ 1 1 Try.underlying28 hi hz hs1 hby rfl (by decide) (by decide) B _ _ _ rfl hown (.int .u8 _) rfl rfl (one_int _ _) (by omega) (by omega) hBw ?_; intro v' w' hown' hg')
        go_roundw
        case rel =>
          refine ⟨zn / 128, pre ++ [UInt8.ofNat (zn % 128 + 128)], by go_num, by omega, own_push hown' (by rw [toNat_ofNat_lt (by omega)]; omega), hown.grew hg' hbel (Nat.le_refl _) hBw, ?_⟩
          rw [← Heq.out, venc_ge hlt]; simp
        case measure => simp [intOf]; omega
end Go.Proofs.Ytciamgdigpgneaa
