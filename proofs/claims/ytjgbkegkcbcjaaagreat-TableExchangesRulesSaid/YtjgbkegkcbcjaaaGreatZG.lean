/- Part 7 of the proof of TableExchangesRules (several texts in one; no further condition). -/
import Derived.Test.YtjgbkegkcbcjaaaGreatZE
import Derived.Test.YtjgbkegkcbcjaaaGreatZF
set_option linter.unusedSimpArgs false
set_option linter.unusedVariables false
set_option linter.unusedSectionVars false
namespace Go.Proofs.YtjgbkegkcbcjaaaGreat
open Go Go.RowKit
theorem z3m:z0b Tryz.prog LL:=by
  intro gf i h;unfold z5y at h;obtain ⟨_,h⟩:=zb6 h;unfold itOf at h;obtain ⟨h1,h⟩:=zb6 h;cases h;rw [Nat.eq_of_beq_eq_true h1];exact yhm
def cf0:Nat→Option Nat:=fun _=>none
def cf1:Nat→Option Nat:=fun f=>bif Nat.beq f 118 then some 2 else none
theorem ygl (n f k:Nat) (args:List Value) (s:CS) (v:Value) (s':CS) (h:cf0 f=some k) (_:zcq Tryz.prog (EE fun _=>none) n f args s=some (v,s')):s'.n≤s.n+k:=by simp [cf0] at h
theorem yke (n f k:Nat) (args:List Value) (s:CS) (v:Value) (s':CS) (h:cf1 f=some k) (hc:zcq Tryz.prog (EE fun _=>none) n f args s=some (v,s')):s'.n≤s.n+k:=by
  unfold cf1 at h
  cases hb:Nat.beq f 118 with
  |false=>rw [hb] at h;simp at h
  |true =>
    rw [hb] at h;simp only [cond_true,Option.some.injEq] at h;subst h;have e:=Nat.eq_of_beq_eq_true hb;subst e;exact zzy ygl rfl (yhz _) rfl (by kernel_rfl) hc
theorem yin:AxOk Tryz.prog [] 118 (z46 2 yc9):=ya9 z03 zm6 (zjz.none z3m) rfl (yhz fun _=>none) rfl ygl (by kernel_rfl) yc8
theorem ydq:AxOk Tryz.prog [] 75 (z46 5 z4g):=ya9 z03 zm6 (zjz.none z3m) rfl (fn75 fun _=>none) rfl yke (by kernel_rfl) yar
noncomputable def ax1:Axs:=z1v 75 (z46 5 z4g) (z1v 118 (z46 2 yc9) fun _=>none)
theorem ykk:zjz Tryz.prog [] LL ax1:=((zjz.none z3m).add yin).add ydq
theorem z5h (w:World):Calls Tryz.prog 12 #[] w fun e w'=>e=.returned (.bool true)∧Below w.heap.size w w':=z1t (fuel:=1000000000) z03 zm6 ykk (fn12 ax1) rfl (by kernel_rfl) w
end Go.Proofs.YtjgbkegkcbcjaaaGreat
