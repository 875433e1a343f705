/- The reference's decoder of integers. -/
import Derived.Test.YtciamgdigpgneaaWire2
namespace Go.Proofs.Ytciamgdigpgneaa
open Go.RowKit WM
/-- the sum of the low digits -/
def low (l : List UInt8) : Nat → Nat
  | 0 => 0
  | j + 1 => low l j + (l.getD j 0).toNat % 128 * 128 ^ j
theorem low_lt (l : List UInt8) : ∀ j, low l j < 128 ^ j := by
  intro j
  induction j with
  | zero => simp [low]
  | succ j ih =>
    rw [low, Nat.pow_succ, Nat.mul_comm (128 ^ j) 128]
    have : (l.getD j 0).toNat % 128 ≤ 127 := by omega
    have := Nat.mul_le_mul_right (128 ^ j) this
    omega
theorem low_step {l : List UInt8} {j : Nat} (hlt : j < l.length) (h9 : j ≤ 8) (hc : 128 ≤ l[j].toNat) (h : decF 0 0 l = decF j (low l j) (l.drop j)) : decF 0 0 l = decF (j + 1) (low l (j + 1)) (l.drop (j + 1)) := by
  rw [h, List.drop_eq_getElem_cons hlt, decF, if_neg (by omega), if_neg (by omega), low]
  simp [hlt]
set_option maxRecDepth 100000 in
set_option maxHeartbeats 2000000 in
theorem ref_GetInt (ao : Option Addr) (n cap : Nat) (l : List UInt8) (w : World) (hs : Bs w ao n cap l) :
    Calls Try.prog 25 #[.slice ao n cap] w fun e w' => e = .returned (tI (dec l)) ∧ w = w' := by
  obtain rfl := hs.length
  have hcap := hs.fits
  have hsm := hs.small
  unfold maxLen at hsm
  go_enter Try.func25, Try.ntmps25
  go_wp2
  go_loop [5] (fun k => ∃ j : Nat, k = .int .i64 j ∧ j ≤ l.length ∧ j ≤ 10 ∧ Hid (j ≤ 9 ∧ decF 0 0 l = decF j (low l j) (l.drop j) ∨ j = 10 ∧ decF 0 0 l = .error 6)) (fun k => l.length - (intOf k).toNat)
  case atStart => exact ⟨0, rfl, Nat.zero_le _, by omega, .inl ⟨by omega, by simp [low]⟩⟩
  case round =>
    obtain ⟨j, rfl, hj, hj10, H⟩ := hrel
    by_cases hlt : j < l.length
    · obtain ⟨b, off, rfl, hc⟩ := Bs.at hs hlt
      have hcj := hc j hlt
      by_cases h10 : j = 10
      · have Hf : Hid (tI (dec l) = .tuple #[.int .i64 0, .int .i64 0, .int .i64 6]) := by
          rcases H.out with ⟨h, _⟩ | ⟨_, h⟩
          · omega
          · rw [dec_of h]; rfl
        have h10' : ¬ j < 10 := by omega
        have e1 : ((j : Int) == 10) = true := by simp; omega
        clear h10 H hc
        go_wp2
        go_ret3
        exact ⟨congrArg Ending.returned Hf.out.symm, rfl⟩
      · have h10' : j < 10 := by omega
        have e1 : ((j : Int) == 10) = false := by simp; omega
        have e1' : ((j : Int) == (l.length : Int)) = false := by simp; omega
        have hd : decF 0 0 l = decF j (low l j) (l.drop j) := by
          rcases H.out with ⟨_, h⟩ | ⟨h, _⟩
          · exact h
          · omega
        by_cases hcl : 128 ≤ l[j].toNat
        · have Hn : Hid (j + 1 ≤ 9 ∧ decF 0 0 l = decF (j + 1) (low l (j + 1)) (l.drop (j + 1)) ∨ j + 1 = 10 ∧ decF 0 0 l = .error 6) := by
            by_cases h8 : j ≤ 8
            · exact .inl ⟨by omega, low_step hlt h8 hcl hd⟩
            · refine .inr ⟨by omega, ?_⟩
              rw [hd, List.drop_eq_getElem_cons hlt, decF, if_pos (by omega)]
          have Hj := Lib.hid (show j + 1 ≤ 10 by omega)
          clear hd H hc h10
          generalize l[j] = c at *
          have hcb := c.toNat_lt
          go_wp2
          go_round
          case rel => exact ⟨j + 1, by go_num, by omega, Hj.out, Hn⟩
          case measure => simp [intOf]; omega
        · -- the last byte is found
          have Hd : Hid (decF 0 0 l = decF j (low l j) (l[j] :: l.drop (j + 1))) := by rw [← List.drop_eq_getElem_cons hlt]; exact hd
          have Hlow : Hid (low l (j + 1) = low l j + l[j].toNat % 128 * 128 ^ j) := by show low l (j + 1) = _; rw [low]; simp [hlt]
          have Hc := Lib.hid hc
          clear hd H hc h10
          by_cases hE : j = 9 ∧ 1 < l[j].toNat ∨ 0 < j ∧ l[j].toNat = 0
          · have Hf : Hid (tI (dec l) = .tuple #[.int .i64 0, .int .i64 0, .int .i64 6]) := by
              rw [dec_of Hd.out]; simp only [decF, if_pos hE]; rfl
            clear Hc Hd Hlow
            generalize l[j] = c at *
            have hcb := c.toNat_lt
            by_cases hA : j = 9
            · have e2 : ((j : Int) == 9) = true := by simp; omega
              have hjp : 0 < j := by omega
              by_cases hC : 1 < c.toNat
              · clear hE hA
                go_wp2
                go_ret3
                exact ⟨congrArg Ending.returned Hf.out.symm, rfl⟩
              · have e3 : ((c.toNat : Int) == 0) = true := by simp; omega
                clear hE hA
                go_wp2
                go_ret3
                exact ⟨congrArg Ending.returned Hf.out.symm, rfl⟩
            · have e2 : ((j : Int) == 9) = false := by simp; omega
              have hjp : 0 < j := by omega
              have e3 : ((c.toNat : Int) == 0) = true := by simp; omega
              clear hE hA
              go_wp2
              go_ret3
              exact ⟨congrArg Ending.returned Hf.out.symm, rfl⟩
          · have hS : low l (j + 1) < 18446744073709551616 := by
              have h1 := low_lt l j
              rw [Hlow.out]
              by_cases h9 : j = 9
              · have : l[j].toNat % 128 ≤ 1 := by omega
                have := Nat.mul_le_mul_right (128 ^ j) this
                subst h9
                omega
              · have h2 := low_lt l (j + 1)
                rw [Hlow.out] at h2
                have : 128 ^ (j + 1) ≤ 128 ^ 9 := Nat.pow_le_pow_right (by decide) (by omega)
                omega
            have Hf : Hid (tI (dec l) = .tuple #[.int .i64 (zag (low l (j + 1))), .int .i64 ((j : Int) + 1), .int .i64 0]) := by
              rw [dec_of Hd.out, Hlow.out, show l[j].toNat % 128 = l[j].toNat by omega]; simp only [decF, if_neg hE, if_pos (show l[j].toNat < 128 by omega)]; rfl
            have hcases : ((j : Int) == 9) = true ∧ ¬ 1 < l[j].toNat ∧ 0 < j ∧ ((l[j].toNat : Int) == 0) = false ∨ ((j : Int) == 9) = false ∧ 0 < j ∧ ((l[j].toNat : Int) == 0) = false ∨ ((j : Int) == 9) = false ∧ ¬ 0 < j := by
              simp only [beq_iff_eq, beq_eq_false_iff_ne, ne_eq]
              omega
            clear Hd Hlow hE
            generalize hS0 : low l (j + 1) = S at *
            have HS := Lib.hid hS0
            clear hS0
            generalize hcd : l[j] = c at *
            clear hcd
            have hcb := c.toNat_lt
            rcases hcases with ⟨e2, e3, e4, e5⟩ | ⟨e2, e4, e5⟩ | ⟨e2, e4⟩
            all_goals
              go_wp2
              go_loop [6, 7] (fun z i => ∃ m zn : Nat, i = .int .i64 ((m : Int) - 1) ∧ z = .int .u64 zn ∧ m ≤ j + 1 ∧ Hid (zn * 128 ^ m + low l m = S)) (fun _ i => (intOf i + 1).toNat)
              case atStart => exact ⟨j + 1, 0, by congr 1; omega, rfl, Nat.le_refl _, by show 0 * 128 ^ (j + 1) + low l (j + 1) = S; rw [HS.out]; omega⟩
              case round =>
                obtain ⟨m, zn, rfl, rfl, hm, HM⟩ := hrel
                cases m with
                | zero =>
                  have hzS : zn = S := by have := HM.out; simp [low] at this; exact this
                  subst hzS
                  clear HM
                  have e0 : ((0 : Nat) : Int) - 1 = -1 := rfl
                  rw [e0]
                  have hHf := Hf.out
                  unfold zag at hHf
                  by_cases hp : zn % 2 = 1
                  · rw [if_pos hp, show (-1 : Int) - ((zn / 2 : Nat) : Int) = -1 - (zn : Int) / 2 by omega] at hHf
                    have HHf := Lib.hid hHf
                    have ep : ((zn : Int) % 2 == 1) = true := by simp; omega
                    clear hHf Hf hp
                    go_wp2
                    go_ret3
                    exact ⟨congrArg Ending.returned HHf.out.symm, rfl⟩
                  · rw [if_neg hp, show ((zn / 2 : Nat) : Int) = (zn : Int) / 2 by omega] at hHf
                    have HHf := Lib.hid hHf
                    have ep : ((zn : Int) % 2 == 1) = false := by simp; omega
                    clear hHf Hf hp
                    go_wp2
                    go_ret3
                    exact ⟨congrArg Ending.returned HHf.out.symm, rfl⟩
                | succ m =>
                  rw [show ((m + 1 : Nat) : Int) - 1 = (m : Int) by omega]
                  have hmj : m < l.length := by omega
                  have hcm := Hc.out m hmj
                  have hM : zn * 128 ^ (m + 1) + (low l m + l[m].toNat % 128 * 128 ^ m) = S := by
                    have := HM.out; rw [low] at this; simpa [hmj] using this
                  have hM2 : (zn * 128 + l[m].toNat % 128) * 128 ^ m + low l m = S := by
                    rw [Nat.add_mul, Nat.mul_assoc, show 128 * 128 ^ m = 128 ^ (m + 1) by rw [Nat.pow_succ, Nat.mul_comm]]; omega
                  clear hM HM
                  generalize l[m] = d at *
                  have hdb := d.toNat_lt
                  have hb : zn * 128 + d.toNat % 128 < 18446744073709551616 := by
                    have : zn * 128 + d.toNat % 128 ≤ (zn * 128 + d.toNat % 128) * 128 ^ m := Nat.le_mul_of_pos_right _ (Nat.pow_pos (by decide))
                    omega
                  have HM2 := Lib.hid hM2
                  clear hM2
                  go_wp2
                  go_round
                  case rel => exact ⟨m, zn * 128 + d.toNat % 128, by go_num, by go_num, by omega, HM2⟩
                  case measure => simp [intOf]
    · have hjl : j = l.length := by omega
      have hf : decF 0 0 l = .error 5 ∧ j ≤ 9 ∨ j = 10 ∧ decF 0 0 l = .error 6 := by
        rcases H.out with ⟨h9, h⟩ | h
        · exact .inl ⟨by rw [h, List.drop_of_length_le (by omega)]; rfl, h9⟩
        · exact .inr h
      rcases hf with ⟨hf, h9⟩ | ⟨h10, hf⟩
      · have Hf : Hid (tI (dec l) = .tuple #[.int .i64 0, .int .i64 0, .int .i64 5]) := by
          rw [dec_of hf]; rfl
        have e1 : ((j : Int) == 10) = false := by simp; omega
        have e2 : ((j : Int) == (l.length : Int)) = true := by simp; omega
        clear hjl H hs hf
        go_wp2
        go_ret3
        exact ⟨congrArg Ending.returned Hf.out.symm, rfl⟩
      · have Hf : Hid (tI (dec l) = .tuple #[.int .i64 0, .int .i64 0, .int .i64 6]) := by
          rw [dec_of hf]; rfl
        have e1 : ((j : Int) == 10) = true := by simp; omega
        clear hjl H hs hf h10
        go_wp2
        go_ret3
        exact ⟨congrArg Ending.returned Hf.out.symm, rfl⟩
end Go.Proofs.Ytciamgdigpgneaa
