/- Walks of the integers' decoding. -/
import Derived.Test.YtciamgdigpgneaaWire1
import Derived.Lib.Zigzag
import Derived.Lib.VarintBits
namespace Go.Proofs.Ytciamgdigpgneaa
open Go.RowKit WM
theorem pow128 (j : Nat) : (2 : Nat) ^ (7 * j) = 128 ^ j := by rw [Nat.pow_mul]
theorem pow128_le {j : Nat} (h : j ≤ 8) : 128 ^ j ≤ 72057594037927936 := Nat.le_trans (Nat.pow_le_pow_right (by decide) h) (by decide)
theorem or_step {zn j c : Nat} (hj : j ≤ 9) (hz : zn < 128 ^ j) (hc : c < 256) (h9 : j = 9 → c ≤ 1) :
    bits BinOp.or IntKind.u64 (zn : Int) (IntKind.u64.wrap (IntKind.u64.wrap (bits BinOp.and IntKind.u8 (c : Int) 127) * 2 ^ (7 * j))) = ((zn + c % 128 * 128 ^ j : Nat) : Int) ∧ zn + c % 128 * 128 ^ j < 18446744073709551616 ∧ (j ≤ 8 → zn + c % 128 * 128 ^ j < 128 ^ (j + 1)) := by
  have hb : c % 128 * 128 ^ j ≤ 9223372036854775808 - 72057594037927936 ∨ j = 9 ∧ c % 128 * 128 ^ j ≤ 9223372036854775808 := by
    by_cases h : j = 9
    · subst h
      have := h9 rfl
      refine .inr ⟨rfl, ?_⟩
      have : c % 128 ≤ 1 := by omega
      have := Nat.mul_le_mul_right (128 ^ 9) this
      omega
    · left
      have h1 := pow128_le (show j ≤ 8 by omega)
      have : c % 128 ≤ 127 := by omega
      have := Nat.mul_le_mul this h1
      omega
  have hp : 128 ^ j ≤ 9223372036854775808 := Nat.le_trans (Nat.pow_le_pow_right (by decide) hj) (by decide)
  have hlt : c % 128 * 128 ^ j < 18446744073709551616 := by omega
  refine ⟨?_, ?_, ?_⟩
  · rw [u8_and127 (c : Int) (by omega) (by omega), IntKind.wrap_u64 ((c : Int) % 128), show ((c : Int) % 128) % 18446744073709551616 = ((c % 128 : Nat) : Int) by omega]
    have e : ((c % 128 : Nat) : Int) * 2 ^ (7 * j) = ((c % 128 * 128 ^ j : Nat) : Int) := by
      rw [← pow128]; push_cast; rfl
    rw [e, IntKind.wrap_u64, show ((c % 128 * 128 ^ j : Nat) : Int) % 18446744073709551616 = ((c % 128 * 128 ^ j : Nat) : Int) by omega, u64_or_nat _ _ (by omega) hlt]
    rw [Nat.or_comm, nat_join (7 * j) _ _ (by rw [pow128, Nat.mul_mod_left]) (by rw [pow128]; exact hz), Nat.add_comm]
  · omega
  · intro _
    rw [Nat.pow_succ, Nat.mul_comm (128 ^ j) 128]
    have : c % 128 ≤ 127 := by omega
    have := Nat.mul_le_mul_right (128 ^ j) this
    omega
theorem zag_bits {z : Nat} (hz : z < 18446744073709551616) : bits BinOp.xor IntKind.i64 ((z : Int) / 2) (-((z : Int) % 2)) = zag z := by
  unfold zag
  by_cases h : z % 2 = 1
  · rw [if_pos h, show -((z : Int) % 2) = -1 by omega]
    have := Lib.i64_not (z / 2) (by omega)
    have hc : bits BinOp.xor IntKind.i64 ((z / 2 : Nat) : Int) (-1) = bits .xor .i64 (-1) ((z / 2 : Nat) : Int) := by
      show IntKind.i64.wrap ((BitVec.ofInt 64 _ ^^^ BitVec.ofInt 64 _).toNat : Int) = IntKind.i64.wrap ((BitVec.ofInt 64 _ ^^^ BitVec.ofInt 64 _).toNat : Int)
      rw [BitVec.xor_comm]
    rw [show (z : Int) / 2 = ((z / 2 : Nat) : Int) by omega, hc, this]; omega
  · rw [if_neg h, show -((z : Int) % 2) = 0 by omega, show (z : Int) / 2 = ((z / 2 : Nat) : Int) by omega]
    show IntKind.i64.wrap ((BitVec.ofInt 64 _ ^^^ BitVec.ofInt 64 0).toNat : Int) = _
    have h2 : (BitVec.ofInt 64 ((z / 2 : Nat) : Int)).toNat = z / 2 := by
      rw [BitVec.ofInt_natCast, BitVec.toNat_ofNat]; exact Nat.mod_eq_of_lt (by omega)
    have h3 : BitVec.ofInt 64 0 = 0#64 := by decide
    rw [h3, BitVec.xor_zero, h2, IntKind.wrap_i64]; omega
def zagR : Except Int (Nat × Nat) → Except Int (Int × Nat)
  | .ok (z, u) => .ok (zag z, u)
  | .error e => .error e
theorem dec_of {l : List UInt8} {r : Except Int (Nat × Nat)} (h : decF 0 0 l = r) : dec l = zagR r := by
  unfold dec; rw [h]; rfl
set_option maxRecDepth 100000 in
set_option maxHeartbeats 2000000 in
theorem wire_GetInt (ao : Option Addr) (n cap : Nat) (l : List UInt8) (w : World) (hs : Bs w ao n cap l) :
    Calls Try.prog 24 #[.slice ao n cap] w fun e w' => e = .returned (tI (dec l)) ∧ w = w' := by
  obtain rfl := hs.length
  have hcap := hs.fits
  have hsm := hs.small
  unfold maxLen at hsm
  go_enter Try.func24, Try.ntmps24
  go_wp2
  go_step3
  go_wp2
  go_step3
  go_wp2
  go_loop [5, 6, 11] (fun z u i => ∃ j zn : Nat, i = .int .i64 j ∧ j ≤ l.length ∧ j ≤ 9 ∧ u = .int .i64 0 ∧ z = .int .u64 zn ∧ zn < 128 ^ j ∧ Hid (decF 0 0 l = decF j zn (l.drop j))) (fun _ _ i => l.length - (intOf i).toNat)
  case atStart => exact ⟨0, 0, rfl, Nat.zero_le _, by omega, rfl, rfl, by decide, by simp [Hid]⟩
  case round =>
    obtain ⟨j, zn, rfl, hj, hj9, rfl, rfl, hzn, H⟩ := hrel
    by_cases hlt : j < l.length
    · obtain ⟨b, off, rfl, hc⟩ := Bs.at hs hlt
      have hcj := hc j hlt
      have Hd := Lib.hid (List.drop_eq_getElem_cons hlt)
      generalize l[j] = c at *
      have hcb := c.toNat_lt
      have Hdec : Hid (decF 0 0 l = decF j zn (c :: l.drop (j + 1))) := by rw [← Hd.out]; exact H
      clear hc H Hd hs
      have HZ := Lib.hid hzn
      clear hzn
      have b1 : (((j : Int) + 1) == 0) = false := by simp; omega
      by_cases hE : j = 9 ∧ 1 < c.toNat ∨ 0 < j ∧ c.toNat = 0
      · -- an error
        have Hf : Hid (tI (dec l) = .tuple #[.int .i64 0, .int .i64 0, .int .i64 6]) := by
          rw [dec_of Hdec.out]; simp only [decF, if_pos hE]; rfl
        by_cases hA : j = 9
        · have e1 : ((j : Int) == 9) = true := by simp; omega
          have hjp : 0 < j := by omega
          by_cases hC : 1 < c.toNat
          · clear hE hA
            go_wp2
            go_ret3
            exact ⟨congrArg Ending.returned Hf.out.symm, rfl⟩
          · have e2 : ((c.toNat : Int) == 0) = true := by simp; omega
            clear hE hA
            go_wp2
            go_ret3
            exact ⟨congrArg Ending.returned Hf.out.symm, rfl⟩
        · have e1 : ((j : Int) == 9) = false := by simp; omega
          have hjp : 0 < j := by omega
          have e2 : ((c.toNat : Int) == 0) = true := by simp; omega
          clear hE hA
          go_wp2
          go_ret3
          exact ⟨congrArg Ending.returned Hf.out.symm, rfl⟩
      · obtain ⟨eO, hz1, hz2⟩ := or_step hj9 HZ.out hcb (by omega)
        have ea := Lib.u64_and1 (x := ((zn + c.toNat % 128 * 128 ^ j : Nat) : Int)) (by omega) (by omega)
        by_cases hcl : c.toNat < 128
        · -- the last byte
          have Hf : Hid (tI (dec l) = .tuple #[.int .i64 (bits BinOp.xor IntKind.i64 (((zn + c.toNat % 128 * 128 ^ j : Nat) : Int) / 2) (-(((zn + c.toNat % 128 * 128 ^ j : Nat) : Int) % 2))), .int .i64 ((j : Int) + 1), .int .i64 0]) := by
            rw [dec_of Hdec.out, zag_bits hz1, show c.toNat % 128 = c.toNat by omega]; simp only [decF, if_neg hE, if_pos hcl]; rfl
          clear Hdec
          generalize zn + c.toNat % 128 * 128 ^ j = z' at *
          clear hz2
          by_cases hA : j = 9
          · have e1 : ((j : Int) == 9) = true := by simp; omega
            have hc1 : ¬ 1 < c.toNat := by omega
            have hjp : 0 < j := by omega
            have e2 : ((c.toNat : Int) == 0) = false := by simp; omega
            clear hE hA
            go_wp2
            go_ret3
            exact ⟨congrArg Ending.returned Hf.out.symm, rfl⟩
          · have e1 : ((j : Int) == 9) = false := by simp; omega
            by_cases h0 : 0 < j
            · have e2 : ((c.toNat : Int) == 0) = false := by simp; omega
              clear hE hA
              go_wp2
              go_ret3
              exact ⟨congrArg Ending.returned Hf.out.symm, rfl⟩
            · clear hE hA
              go_wp2
              go_ret3
              exact ⟨congrArg Ending.returned Hf.out.symm, rfl⟩
        · -- one more
          have hA : ¬ j = 9 := by omega
          have e1 : ((j : Int) == 9) = false := by simp; omega
          have e2 : ((c.toNat : Int) == 0) = false := by simp; omega
          have hz3 := hz2 (by omega)
          have Hn : Hid (decF 0 0 l = decF (j + 1) (zn + c.toNat % 128 * 128 ^ j) (l.drop (j + 1))) := by
            have := Hdec.out
            rw [decF, if_neg hE, if_neg hcl] at this
            exact this
          clear Hdec
          generalize zn + c.toNat % 128 * 128 ^ j = z' at *
          have Hz3 := Lib.hid hz3
          clear hz2 hz3
          have Hj8 := Lib.hid (show j + 1 ≤ 9 by omega)
          by_cases h0 : 0 < j
          all_goals
            clear hE hA
            go_wp2
            go_round
            case rel => exact ⟨j + 1, z', by go_num, by omega, Hj8.out, rfl, rfl, Hz3.out, Hn⟩
            case measure => simp [intOf]; omega
    · have hjl : j = l.length := by omega
      have Hf : Hid (tI (dec l) = .tuple #[.int .i64 0, .int .i64 0, .int .i64 5]) := by
        rw [dec_of H.out, List.drop_of_length_le (by omega)]; rfl
      clear hjl H hs
      go_wp2
      go_ret3
      exact ⟨congrArg Ending.returned Hf.out.symm, rfl⟩
end Go.Proofs.Ytciamgdigpgneaa
