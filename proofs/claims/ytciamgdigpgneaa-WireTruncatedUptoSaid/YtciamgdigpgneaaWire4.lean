/- Lengths and byte strings: decoding. -/
import Derived.Test.YtciamgdigpgneaaWire3
namespace Go.Proofs.Ytciamgdigpgneaa
open Go.RowKit WM
/-- the results of 'length' -/
def tN (r : Except Int (Nat × Nat)) : Value := match r with
  | .ok (n, u) => .tuple #[.int .i64 n, .int .i64 u, .int .i64 0]
  | .error e => .tuple #[.int .i64 0, .int .i64 0, .int .i64 e]
/-- a string -/
def strv (l : List UInt8) : Value := .string ⟨l.toArray⟩
/-- the results of a decoder of a string -/
def tB (r : Except Int (List UInt8 × Nat)) : Value := match r with
  | .ok (s, u) => .tuple #[.string ⟨s.toArray⟩, .int .i64 u, .int .i64 0]
  | .error e => .tuple #[.string ⟨#[]⟩, .int .i64 0, .int .i64 e]
set_option maxRecDepth 100000 in
set_option maxHeartbeats 2000000 in
theorem wire_length (ao : Option Addr) (n cap : Nat) (l : List UInt8) (a : Nat) (w : World) (hs : Bs w ao n cap l) (ha : 0 < a) (ha2 : a ≤ 1000) :
    Calls Try.prog 42 #[.slice ao n cap, .int .i64 a] w fun e w' => e = .returned (tN (lenD l a)) ∧ w = w' := by
  have C := wire_GetInt ao n cap l w hs
  obtain rfl := hs.length
  have hcap := hs.fits
  have hsm := hs.small
  unfold maxLen at hsm
  cases hd : dec l with
  | error e =>
    have Hf : Hid (tN (lenD l a) = .tuple #[.int .i64 0, .int .i64 0, .int .i64 e]) := by unfold lenD; rw [hd]; rfl
    rw [hd] at C
    have he := dec_err hd
    clear hd
    rcases he with rfl | rfl
    all_goals
      go_enter Try.func42, Try.ntmps42
      go_wp2_with (go_at_call 24; refine C.mono ?_; rintro e w' ⟨rfl, rfl⟩; simp only [tI])
      go_ret3
      exact ⟨congrArg Ending.returned Hf.out.symm, rfl⟩
  | ok p =>
    obtain ⟨m, u⟩ := p
    obtain ⟨-, -, hul, hu0, hm1, hm2⟩ := dec_canon hd
    have Hd := Lib.hid hd
    rw [hd] at C
    clear hd
    by_cases hneg : m < 0
    · have Hf : Hid (tN (lenD l a) = .tuple #[.int .i64 0, .int .i64 0, .int .i64 6]) := by unfold lenD; rw [Hd.out]; simp only [if_pos hneg]; rfl
      go_enter Try.func42, Try.ntmps42
      go_wp2_with (go_at_call 24; refine C.mono ?_; rintro e w' ⟨rfl, rfl⟩; simp only [tI])
      go_ret3
      exact ⟨congrArg Ending.returned Hf.out.symm, rfl⟩
    · by_cases hgt : (l.length - u) / a < m.toNat
      · have Hf : Hid (tN (lenD l a) = .tuple #[.int .i64 0, .int .i64 0, .int .i64 5]) := by unfold lenD; rw [Hd.out]; simp only [if_neg hneg, if_pos hgt]; rfl
        have hgt' : ((l.length : Int) - u) / a < m := by
          have : ((l.length : Int) - u) / a = (((l.length - u) / a : Nat) : Int) := by rw [Int.natCast_ediv]; congr 1; omega
          omega
        clear hgt
        go_enter Try.func42, Try.ntmps42
        go_wp2_with (go_at_call 24; refine C.mono ?_; rintro e w' ⟨rfl, rfl⟩; simp only [tI])
        go_ret3
        exact ⟨congrArg Ending.returned Hf.out.symm, rfl⟩
      · have Hf : Hid (tN (lenD l a) = .tuple #[.int .i64 m, .int .i64 u, .int .i64 0]) := by
          unfold lenD; rw [Hd.out]; simp only [if_neg hneg, if_neg hgt]; show Value.tuple _ = _; rw [show ((m.toNat : Nat) : Int) = m by omega]
        have hgt' : ¬ ((l.length : Int) - u) / a < m := by
          have : ((l.length : Int) - u) / a = (((l.length - u) / a : Nat) : Int) := by rw [Int.natCast_ediv]; congr 1; omega
          omega
        clear hgt
        go_enter Try.func42, Try.ntmps42
        go_wp2_with (go_at_call 24; refine C.mono ?_; rintro e w' ⟨rfl, rfl⟩; simp only [tI])
        go_ret3
        exact ⟨congrArg Ending.returned Hf.out.symm, rfl⟩
set_option maxRecDepth 100000 in
set_option maxHeartbeats 2000000 in
theorem ref_length (ao : Option Addr) (n cap : Nat) (l : List UInt8) (a : Nat) (w : World) (hs : Bs w ao n cap l) (ha : 0 < a) (ha2 : a ≤ 1000) :
    Calls Try.prog 44 #[.slice ao n cap, .int .i64 a] w fun e w' => e = .returned (tN (lenD l a)) ∧ w = w' := by
  have C := ref_GetInt ao n cap l w hs
  obtain rfl := hs.length
  have hcap := hs.fits
  have hsm := hs.small
  unfold maxLen at hsm
  cases hd : dec l with
  | error e =>
    have Hf : Hid (tN (lenD l a) = .tuple #[.int .i64 0, .int .i64 0, .int .i64 e]) := by unfold lenD; rw [hd]; rfl
    rw [hd] at C
    have he := dec_err hd
    clear hd
    rcases he with rfl | rfl
    all_goals
      go_enter Try.func44, Try.ntmps44
      go_wp2_with (go_at_call 25; refine C.mono ?_; rintro e w' ⟨rfl, rfl⟩; simp only [tI])
      go_ret3
      exact ⟨congrArg Ending.returned Hf.out.symm, rfl⟩
  | ok p =>
    obtain ⟨m, u⟩ := p
    obtain ⟨-, -, hul, hu0, hm1, hm2⟩ := dec_canon hd
    have Hd := Lib.hid hd
    rw [hd] at C
    clear hd
    by_cases hneg : m < 0
    · have Hf : Hid (tN (lenD l a) = .tuple #[.int .i64 0, .int .i64 0, .int .i64 6]) := by unfold lenD; rw [Hd.out]; simp only [if_pos hneg]; rfl
      go_enter Try.func44, Try.ntmps44
      go_wp2_with (go_at_call 25; refine C.mono ?_; rintro e w' ⟨rfl, rfl⟩; simp only [tI])
      go_ret3
      exact ⟨congrArg Ending.returned Hf.out.symm, rfl⟩
    · by_cases hgt : (l.length - u) / a < m.toNat
      · have Hf : Hid (tN (lenD l a) = .tuple #[.int .i64 0, .int .i64 0, .int .i64 5]) := by unfold lenD; rw [Hd.out]; simp only [if_neg hneg, if_pos hgt]; rfl
        have hgt' : ((l.length : Int) - u) / a < m := by
          have : ((l.length : Int) - u) / a = (((l.length - u) / a : Nat) : Int) := by rw [Int.natCast_ediv]; congr 1; omega
          omega
        clear hgt
        go_enter Try.func44, Try.ntmps44
        go_wp2_with (go_at_call 25; refine C.mono ?_; rintro e w' ⟨rfl, rfl⟩; simp only [tI])
        go_ret3
        exact ⟨congrArg Ending.returned Hf.out.symm, rfl⟩
      · have Hf : Hid (tN (lenD l a) = .tuple #[.int .i64 m, .int .i64 u, .int .i64 0]) := by
          unfold lenD; rw [Hd.out]; simp only [if_neg hneg, if_neg hgt]; show Value.tuple _ = _; rw [show ((m.toNat : Nat) : Int) = m by omega]
        have hgt' : ¬ ((l.length : Int) - u) / a < m := by
          have : ((l.length : Int) - u) / a = (((l.length - u) / a : Nat) : Int) := by rw [Int.natCast_ediv]; congr 1; omega
          omega
        clear hgt
        go_enter Try.func44, Try.ntmps44
        go_wp2_with (go_at_call 25; refine C.mono ?_; rintro e w' ⟨rfl, rfl⟩; simp only [tI])
        go_ret3
        exact ⟨congrArg Ending.returned Hf.out.symm, rfl⟩

set_option maxRecDepth 100000 in
set_option maxHeartbeats 2000000 in
theorem wire_GetBytes (ao : Option Addr) (n cap : Nat) (l : List UInt8) (w : World) (hs : Bs w ao n cap l) :
    Calls Try.prog 26 #[.slice ao n cap] w fun e w' => e = .returned (tB (getB l)) ∧ w = w' := by
  have C := wire_length ao n cap l 1 w hs (by decide) (by decide)
  obtain ⟨i5, hi, hz, hs1, hby⟩ := inf_u8
  obtain rfl := hs.length
  have hcap := hs.fits
  have hsm := hs.small
  unfold maxLen at hsm
  cases hd : lenD l 1 with
  | error e =>
    have Hf : Hid (tB (getB l) = .tuple #[.string ⟨#[]⟩, .int .i64 0, .int .i64 e]) := by unfold getB; rw [hd]; rfl
    rw [hd] at C
    have he := lenD_err hd
    clear hd
    rcases he with rfl | rfl
    all_goals
      go_enter Try.func26, Try.ntmps26
      go_wp2_with (go_at_call 42; refine C.mono ?_; rintro e w' ⟨rfl, rfl⟩; simp only [tN])
      go_ret3
      exact ⟨congrArg Ending.returned Hf.out.symm, rfl⟩
  | ok p =>
    obtain ⟨m, u⟩ := p
    have Hf : Hid (tB (getB l) = .tuple #[.string ⟨((l.drop u).take m).toArray⟩, .int .i64 ((u : Int) + m), .int .i64 0]) := by unfold getB; rw [hd]; rfl
    obtain ⟨-, hml, hul, -, -, hu0, hm2⟩ := lenD_ok hd
    rw [Nat.div_one] at hml
    rw [hd] at C
    clear hd
    go_enter Try.func26, Try.ntmps26
    go_wp2_with (first | (go_at_call 42; refine C.mono ?_; rintro e w' ⟨rfl, rfl⟩; simp only [tN]) | (refine wpList_slice_sl rfl 28 (.tmp 17) (some (.tmp 18)) (some (.tmp 21)) rfl 5 i5 Try.underlying28 hi hs1 rfl hs u (u + m) (.inr ⟨_, .i64, rfl, rfl⟩) (.inr ⟨_, .i64, rfl, rfl⟩) (by omega) (by omega) ?_; intro ao' hs'; rw [u8s_drop, u8s_take, Nat.add_sub_cancel_left] at hs'; have hcv := run_string_bs (P := Try.prog) hs' 28 5 9 Try.underlying28 Try.underlying5 Try.underlying9))
    go_ret3
    exact ⟨congrArg Ending.returned Hf.out.symm, rfl⟩

set_option maxRecDepth 100000 in
set_option maxHeartbeats 2000000 in
theorem ref_GetBytes (ao : Option Addr) (n cap : Nat) (l : List UInt8) (w : World) (hs : Bs w ao n cap l) :
    Calls Try.prog 27 #[.slice ao n cap] w fun e w' => e = .returned (tB (getB l)) ∧ w = w' := by
  have C := ref_GetInt ao n cap l w hs
  obtain ⟨i5, hi, hz, hs1, hby⟩ := inf_u8
  obtain rfl := hs.length
  have hcap := hs.fits
  have hsm := hs.small
  unfold maxLen at hsm
  cases hd : dec l with
  | error e =>
    have Hf : Hid (tB (getB l) = .tuple #[.string ⟨#[]⟩, .int .i64 0, .int .i64 e]) := by unfold getB lenD; rw [hd]; rfl
    rw [hd] at C
    have he := dec_err hd
    clear hd
    rcases he with rfl | rfl
    all_goals
      go_enter Try.func27, Try.ntmps27
      go_wp2_with (go_at_call 25; refine C.mono ?_; rintro e w' ⟨rfl, rfl⟩; simp only [tI])
      go_ret3
      exact ⟨congrArg Ending.returned Hf.out.symm, rfl⟩
  | ok p =>
    obtain ⟨m, u⟩ := p
    obtain ⟨-, -, hul, hu0, hm1, hm2⟩ := dec_canon hd
    have Hd := Lib.hid hd
    rw [hd] at C
    clear hd
    by_cases hneg : m < 0
    · have Hf : Hid (tB (getB l) = .tuple #[.string ⟨#[]⟩, .int .i64 0, .int .i64 6]) := by unfold getB lenD; rw [Hd.out]; simp only [if_pos hneg]; rfl
      go_enter Try.func27, Try.ntmps27
      go_wp2_with (go_at_call 25; refine C.mono ?_; rintro e w' ⟨rfl, rfl⟩; simp only [tI])
      go_ret3
      exact ⟨congrArg Ending.returned Hf.out.symm, rfl⟩
    · obtain ⟨m, rfl⟩ := Int.eq_ofNat_of_zero_le (show 0 ≤ m by omega)
      by_cases hgt : (l.length - u) / 1 < m
      · have Hf : Hid (tB (getB l) = .tuple #[.string ⟨#[]⟩, .int .i64 0, .int .i64 5]) := by unfold getB lenD; rw [Hd.out]; simp only [if_neg hneg, Int.toNat_natCast, if_pos hgt]; rfl
        rw [Nat.div_one] at hgt
        clear hneg
        go_enter Try.func27, Try.ntmps27
        go_wp2_with (go_at_call 25; refine C.mono ?_; rintro e w' ⟨rfl, rfl⟩; simp only [tI])
        go_ret3
        exact ⟨congrArg Ending.returned Hf.out.symm, rfl⟩
      · have Hf : Hid (tB (getB l) = .tuple #[.string ⟨((l.drop u).take m).toArray⟩, .int .i64 ((u : Int) + m), .int .i64 0]) := by
          unfold getB lenD; rw [Hd.out]; simp only [if_neg hneg, Int.toNat_natCast, if_neg hgt]; rfl
        rw [Nat.div_one] at hgt
        clear hneg
        go_enter Try.func27, Try.ntmps27
        go_wp2_with (first | (go_at_call 25; refine C.mono ?_; rintro e w' ⟨rfl, rfl⟩; simp only [tI]) | (refine wpList_slice_sl rfl 28 _ (some _) (some _) rfl 5 i5 Try.underlying28 hi hs1 rfl hs u (u + m) (.inr ⟨_, .i64, rfl, rfl⟩) (.inr ⟨_, .i64, rfl, rfl⟩) (by omega) (by omega) ?_; intro ao' hs'; rw [u8s_drop, u8s_take, Nat.add_sub_cancel_left] at hs'; have hcv := run_string_bs (P := Try.prog) hs' 28 5 9 Try.underlying28 Try.underlying5 Try.underlying9))
        go_ret3
        exact ⟨congrArg Ending.returned Hf.out.symm, rfl⟩
end Go.Proofs.Ytciamgdigpgneaa
