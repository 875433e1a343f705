/- A decoder that is given too little says so: the five decoders at a cut encoding. -/
import Derived.Test.YtciamgdigpgneaaWire19
import Derived.Test.YtciamgdigpgneaaWireMath2
namespace Go.Proofs.Ytciamgdigpgneaa
open Go.RowKit WM
/-- Function f, given the first i bytes of L (and not all), answers with the error 5 and turns nothing. -/
def Short (f : Nat) (L : List UInt8) : Prop := ∀ (ao : Option Addr) (i cap : Nat) (w : World), Bs w ao i cap (L.take i) → i < L.length → i ≤ 500 →
    Calls Try.prog f #[.slice ao i cap] w fun e w' => ∃ v, e = .returned (.tuple #[v, .int .i64 0, .int .i64 5]) ∧ Ext w w'
theorem take_le {L : List UInt8} {i : Nat} (h : i ≤ 500) : (L.take i).length ≤ 1000000 := by rw [List.length_take]; omega
theorem short_Int {n : Int} (h1 : -9223372036854775808 ≤ n) (h2 : n ≤ 9223372036854775807) : Short 24 (enc n) := by
  intro ao i cap w hs hi _
  refine (wire_GetInt ao i cap _ w hs).mono ?_
  rintro e w' ⟨rfl, rfl⟩
  rw [dec_trunc h1 h2 hi]
  exact ⟨_, rfl, Below.refl _ _⟩
theorem short_Bytes {s : List UInt8} (h1 : (s.length : Int) ≤ 9223372036854775807) : Short 26 (encB s) := by
  intro ao i cap w hs hi _
  refine (wire_GetBytes ao i cap _ w hs).mono ?_
  rintro e w' ⟨rfl, rfl⟩
  rw [getB_trunc h1 hi]
  exact ⟨_, rfl, Below.refl _ _⟩
theorem short_Ints {l : List Int} (hr : ∀ x ∈ l, -9223372036854775808 ≤ x ∧ x ≤ 9223372036854775807) (h1 : (l.length : Int) ≤ 9223372036854775807) : Short 28 (encL enc l) := by
  intro ao i cap w hs hi h5
  refine (wire_GetInts ao i cap _ w hs (take_le h5)).mono ?_
  rintro e w' h
  rw [getL_trunc good_int cut_int l hr h1 hi] at h
  exact ⟨_, h.1, h.2⟩
theorem short_Strings {x : List (List UInt8)} (hr : ∀ y ∈ x, (y.length : Int) ≤ 9223372036854775807) (h1 : (x.length : Int) ≤ 9223372036854775807) : Short 31 (encL encB x) := by
  intro ao i cap w hs hi h5
  refine (wire_GetStrings ao i cap _ w hs (take_le h5)).mono ?_
  rintro e w' h
  rw [getL_trunc good_bytes cut_bytes x hr h1 hi] at h
  exact ⟨_, h.1, h.2⟩
theorem short_Digests {d : List (List UInt8)} (h16 : ∀ y ∈ d, y.length = 16) (h1 : (d.length : Int) ≤ 9223372036854775807) : Short 34 (encL (fun d => d) d) := by
  intro ao i cap w hs hi h5
  refine (wire_GetDigests ao i cap _ w hs (take_le h5)).mono ?_
  rintro e w' h
  rw [getL_trunc_digest d h16 h1 hi] at h
  exact ⟨_, h.1, h.2⟩
end Go.Proofs.Ytciamgdigpgneaa
