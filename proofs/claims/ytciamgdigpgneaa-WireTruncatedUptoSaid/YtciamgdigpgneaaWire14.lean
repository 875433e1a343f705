/- The exported functions over lists; comparisons. -/
import Derived.Test.YtciamgdigpgneaaWire13
import Derived.Test.YtciamgdigpgneaaWire6
namespace Go.Proofs.Ytciamgdigpgneaa
open Go.RowKit WM
set_option maxRecDepth 100000 in
theorem wire_GetInts (ao : Option Addr) (n cap : Nat) (l : List UInt8) (w : World) (hs : Bs w ao n cap l) (hlen : l.length ≤ 1000000) :
    Calls Try.prog 28 #[.slice ao n cap] w (PostL 3 1 cvI w (getL dec 1 l)) := by
  have C := get_int ao n cap l w hs hlen
  cases h : getL dec 1 l with
  | error e =>
    rw [h] at C
    go_enter Try.func28, Try.ntmps28
    go_wp2_with (go_at_call 43; refine C.mono ?_; rintro e w1 ⟨rfl, hbel⟩)
    go_ret3
    exact ⟨rfl, hbel⟩
  | ok p =>
    obtain ⟨xs, u⟩ := p
    rw [h] at C
    go_enter Try.func28, Try.ntmps28
    go_wp2_with (go_at_call 43; refine C.mono ?_; rintro e w1 ⟨v, rfl, hown, hbel⟩)
    go_ret3
    exact ⟨v, rfl, hown, hbel⟩
set_option maxRecDepth 100000 in
theorem wire_GetStrings (ao : Option Addr) (n cap : Nat) (l : List UInt8) (w : World) (hs : Bs w ao n cap l) (hlen : l.length ≤ 1000000) :
    Calls Try.prog 31 #[.slice ao n cap] w (PostL 9 1 cvS w (getL getB 1 l)) := by
  have C := get_string ao n cap l w hs hlen
  cases h : getL getB 1 l with
  | error e =>
    rw [h] at C
    go_enter Try.func31, Try.ntmps31
    go_wp2_with (go_at_call 45; refine C.mono ?_; rintro e w1 ⟨rfl, hbel⟩)
    go_ret3
    exact ⟨rfl, hbel⟩
  | ok p =>
    obtain ⟨xs, u⟩ := p
    rw [h] at C
    go_enter Try.func31, Try.ntmps31
    go_wp2_with (go_at_call 45; refine C.mono ?_; rintro e w1 ⟨v, rfl, hown, hbel⟩)
    go_ret3
    exact ⟨v, rfl, hown, hbel⟩
set_option maxRecDepth 100000 in
theorem wire_GetDigests (ao : Option Addr) (n cap : Nat) (l : List UInt8) (w : World) (hs : Bs w ao n cap l) (hlen : l.length ≤ 1000000) :
    Calls Try.prog 34 #[.slice ao n cap] w (PostL 57 16 cvD w (getL getD16 16 l)) := by
  have C := get_digest ao n cap l w hs hlen
  cases h : getL getD16 16 l with
  | error e =>
    rw [h] at C
    go_enter Try.func34, Try.ntmps34
    go_wp2_with (go_at_call 46; refine C.mono ?_; rintro e w1 ⟨rfl, hbel⟩)
    go_ret3
    exact ⟨rfl, hbel⟩
  | ok p =>
    obtain ⟨xs, u⟩ := p
    rw [h] at C
    go_enter Try.func34, Try.ntmps34
    go_wp2_with (go_at_call 46; refine C.mono ?_; rintro e w1 ⟨v, rfl, hown, hbel⟩)
    go_ret3
    exact ⟨v, rfl, hown, hbel⟩
set_option maxRecDepth 100000 in
theorem wire_Ints (ao : Option Addr) (n cap : Nat) (l : List Int) (w : World) (hs : Sl w ao n cap (l.flatMap cvI)) (hlen : l.length ≤ 100000) (hr : ∀ x ∈ l, -9223372036854775808 ≤ x ∧ x ≤ 9223372036854775807) (htot : (l.flatMap enc).length ≤ 1000000000) :
    Calls Try.prog 18 #[.slice ao n cap] w (NewBs w (encL enc l)) := by
  have C := list_int ao n cap l w hs hlen hr htot
  go_enter Try.func18, Try.ntmps18
  go_wp2_with (go_at_call 38; refine C.mono ?_; rintro e w1 ⟨v, rfl, hown, hbel⟩)
  go_ret
  exact ⟨v, rfl, hown, hbel⟩
set_option maxRecDepth 100000 in
theorem wire_Strings (ao : Option Addr) (n cap : Nat) (l : List (List UInt8)) (w : World) (hs : Sl w ao n cap (l.flatMap cvS)) (hlen : l.length ≤ 100000) (hr : ∀ x ∈ l, x.length ≤ 1000000) (htot : (l.flatMap encB).length ≤ 1000000000) :
    Calls Try.prog 20 #[.slice ao n cap] w (NewBs w (encL encB l)) := by
  have C := list_string ao n cap l w hs hlen hr htot
  go_enter Try.func20, Try.ntmps20
  go_wp2_with (go_at_call 39; refine C.mono ?_; rintro e w1 ⟨v, rfl, hown, hbel⟩)
  go_ret
  exact ⟨v, rfl, hown, hbel⟩
set_option maxRecDepth 100000 in
theorem wire_Digests (ao : Option Addr) (n cap : Nat) (l : List (List UInt8)) (w : World) (hs : SlN w ao n cap 16 (l.flatMap cvD)) (h16 : ∀ x ∈ l, x.length = 16) (hlen : l.length ≤ 100000) :
    Calls Try.prog 22 #[.slice ao n cap] w (NewBs w (encL (fun d => d) l)) := by
  have C := list_digest ao n cap l w hs h16 hlen
  go_enter Try.func22, Try.ntmps22
  go_wp2_with (go_at_call 40; refine C.mono ?_; rintro e w1 ⟨v, rfl, hown, hbel⟩)
  go_ret
  exact ⟨v, rfl, hown, hbel⟩
set_option maxRecDepth 100000 in
theorem ref_Same (ao : Option Addr) (n cap : Nat) (l : List UInt8) (ao' : Option Addr) (n' cap' : Nat) (l' : List UInt8) (w : World) (hs : Bs w ao n cap l) (hs' : Bs w ao' n' cap' l') :
    Calls Try.prog 13 #[.slice ao n cap, .slice ao' n' cap'] w fun e w' => e = .returned (.bool (l == l')) ∧ w = w' := by
  have hcv := run_string_bs (P := Try.prog) hs 28 5 9 Try.underlying28 Try.underlying5 Try.underlying9
  have hcv' := run_string_bs (P := Try.prog) hs' 28 5 9 Try.underlying28 Try.underlying5 Try.underlying9
  go_enter Try.func13, Try.ntmps13
  go_wp2
  go_ret
  exact ⟨rfl, rfl⟩
end Go.Proofs.Ytciamgdigpgneaa
