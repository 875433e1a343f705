/- Part 7 of the proof of TableKnowsShadows (several texts in one; no further condition). -/
import Derived.Test.YtjgbkegkcbcjaaaGreatZE
import Derived.Test.YtjgbkegkcbcjaaaGreatZF
set_option linter.unusedSimpArgs false
set_option linter.unusedVariables false
set_option linter.unusedSectionVars false
namespace Go.Proofs.YtjgbkegkcbcjaaaGreat
open Go Go.RowKit
theorem z5r:z17 Tryz.prog LL:=by
  intro gf i h;unfold z71 at h;obtain ⟨_,h⟩:=zcf h;unfold itOf at h;obtain ⟨h1,h⟩:=zcf h;cases h;rw [Nat.eq_of_beq_eq_true h1];exact yjx
def cf0:Nat→Option Nat:=fun _=>none
def cf1:Nat→Option Nat:=fun f=>bif Nat.beq f 118 then some 2 else none
theorem yiu (n f k:Nat) (args:List Value) (s:CS) (v:Value) (s':CS) (h:cf0 f=some k) (_:zc4 Tryz.prog (EE fun _=>none) n f args s=some (v,s')):s'.n≤s.n+k:=by simp [cf0] at h
theorem ymp (n f k:Nat) (args:List Value) (s:CS) (v:Value) (s':CS) (h:cf1 f=some k) (hc:zc4 Tryz.prog (EE fun _=>none) n f args s=some (v,s')):s'.n≤s.n+k:=by
  unfold cf1 at h
  cases hb:Nat.beq f 118 with
  |false=>rw [hb] at h;simp at h
  |true =>
    rw [hb] at h;simp only [cond_true,Option.some.injEq] at h;subst h;have e:=Nat.eq_of_beq_eq_true hb;subst e;exact z1t yiu rfl (yka _) rfl (by kernel_rfl) hc
theorem ykz:AxOk Tryz.prog [] 118 (z7c 2 yfj):=ydk z23 zok (zkz.none z5r) rfl (yka fun _=>none) rfl yiu (by kernel_rfl) yfi
theorem yfz:AxOk Tryz.prog [] 75 (z7c 5 z6n):=ydk z23 zok (zkz.none z5r) rfl (fn75 fun _=>none) rfl ymp (by kernel_rfl) yc0
noncomputable def ax1:Axs:=z3w 75 (z7c 5 z6n) (z3w 118 (z7c 2 yfj) fun _=>none)
theorem ymv:zkz Tryz.prog [] LL ax1:=((zkz.none z5r).add ykz).add yfz
theorem z7m (w:World):Calls Tryz.prog 12 #[] w fun e w'=>e=.returned (.bool true)∧Below w.heap.size w w':=z3u (fuel:=1000000000) z23 zok ymv (fn12 ax1) rfl (by kernel_rfl) w
end Go.Proofs.YtjgbkegkcbcjaaaGreat
