/- Part 7 of the proof of TableEncodes (several texts in one; no further condition). -/
import Derived.Test.YtjgbkegkcbcjaaaGreatZE
import Derived.Test.YtjgbkegkcbcjaaaGreatZF
set_option linter.unusedSimpArgs false
set_option linter.unusedVariables false
set_option linter.unusedSectionVars false
namespace Go.Proofs.YtjgbkegkcbcjaaaGreat
open Go Go.RowKit
theorem z29:zzq Tryz.prog LL:=by
  intro gf i h;unfold z8w at h;obtain ⟨_,h⟩:=zcg h;unfold itOf at h;obtain ⟨h1,h⟩:=zcg h;cases h;rw [Nat.eq_of_beq_eq_true h1];exact yhf
def cf0:Nat→Option Nat:=fun _=>none
def cf1:Nat→Option Nat:=fun f=>bif Nat.beq f 118 then some 2 else none
theorem yf7 (n f k:Nat) (args:List Value) (s:CS) (v:Value) (s':CS) (h:cf0 f=some k) (_:zdc Tryz.prog (EE fun _=>none) n f args s=some (v,s')):s'.n≤s.n+k:=by simp [cf0] at h
theorem yj9 (n f k:Nat) (args:List Value) (s:CS) (v:Value) (s':CS) (h:cf1 f=some k) (hc:zdc Tryz.prog (EE fun _=>none) n f args s=some (v,s')):s'.n≤s.n+k:=by
  unfold cf1 at h
  cases hb:Nat.beq f 118 with
  |false=>rw [hb] at h;simp at h
  |true =>
    rw [hb] at h;simp only [cond_true,Option.some.injEq] at h;subst h;have e:=Nat.eq_of_beq_eq_true hb;subst e;exact zze yf7 rfl (yhr _) rfl (by kernel_rfl) hc
theorem yia:AxOk Tryz.prog [] 118 (z4q 2 ycq):=yaz z0e zna (zj2.none z29) rfl (yhr fun _=>none) rfl yf7 (by kernel_rfl) ycp
theorem ydf:AxOk Tryz.prog [] 75 (z4q 5 z33):=yaz z0e zna (zj2.none z29) rfl (fn75 fun _=>none) rfl yj9 (by kernel_rfl) z97
noncomputable def ax1:Axs:=z1b 75 (z4q 5 z33) (z1b 118 (z4q 2 ycq) fun _=>none)
theorem ykg:zj2 Tryz.prog [] LL ax1:=((zj2.none z29).add yia).add ydf
theorem z40 (w:World):Calls Tryz.prog 12 #[] w fun e w'=>e=.returned (.bool true)∧Below w.heap.size w w':=z09 (fuel:=1000000000) z0e zna ykg (fn12 ax1) rfl (by kernel_rfl) w
end Go.Proofs.YtjgbkegkcbcjaaaGreat
