/- Part 7 of the proof of TableFailsOver (several texts in one; no further condition). -/
import Derived.Test.YtjgbkegkcbcjaaaZE
import Derived.Test.YtjgbkegkcbcjaaaZF
set_option linter.unusedSimpArgs false
set_option linter.unusedVariables false
set_option linter.unusedSectionVars false
namespace Go.Proofs.Ytjgbkegkcbcjaaa
open Go Go.RowKit
theorem its_ok : ItsOk Try.prog LL := by
  intro gf i h
  unfold itsOf at h
  obtain ⟨_, h⟩ := sel_some h
  unfold itOf at h
  obtain ⟨h1, h⟩ := sel_some h
  cases h
  rw [Nat.eq_of_beq_eq_true h1]
  exact open_ok
def cf0 : Nat → Option Nat := fun _ => none
def cf1 : Nat → Option Nat := fun f => bif Nat.beq f 73 then some 2 else none
theorem cf0_ok (n f k : Nat) (args : List Value) (s : CS) (v : Value) (s' : CS) (h : cf0 f = some k) (_ : callC Try.prog (EE fun _ => none) n f args s = some (v, s')) : s'.n ≤ s.n + k := by simp [cf0] at h
theorem cf1_ok (n f k : Nat) (args : List Value) (s : CS) (v : Value) (s' : CS) (h : cf1 f = some k) (hc : callC Try.prog (EE fun _ => none) n f args s = some (v, s')) : s'.n ≤ s.n + k := by
  unfold cf1 at h
  cases hb : Nat.beq f 73 with
  | false => rw [hb] at h; simp at h
  | true =>
    rw [hb] at h
    simp only [cond_true, Option.some.injEq] at h
    subst h
    have e := Nat.eq_of_beq_eq_true hb
    subst e
    exact callC_alc cf0_ok rfl (fn73 _) rfl (by kernel_rfl) hc
theorem axOv_ok : AxOk Try.prog [] 73 (axPure 2 decOv) := ax_pure mixed funcs_ok (AxsOk.none its_ok) rfl (fn73 fun _ => none) rfl cf0_ok (by kernel_rfl) decOv_ok
theorem axAnd_ok : AxOk Try.prog [] 48 (axPure 5 decAnd) := ax_pure mixed funcs_ok (AxsOk.none its_ok) rfl (fn48 fun _ => none) rfl cf1_ok (by kernel_rfl) decAnd_ok
noncomputable def ax1 : Axs := axAdd 48 (axPure 5 decAnd) (axAdd 73 (axPure 2 decOv) fun _ => none)
theorem ax1_ok : AxsOk Try.prog [] LL ax1 := ((AxsOk.none its_ok).add axOv_ok).add axAnd_ok
theorem sane_calls (w : World) : Calls Try.prog 9 #[] w fun e w' => e = .returned (.bool true) ∧ Below w.heap.size w w' := calls_trueA (fuel := 1000000000) mixed funcs_ok ax1_ok (fn9 ax1) rfl (by kernel_rfl) w
end Go.Proofs.Ytjgbkegkcbcjaaa
