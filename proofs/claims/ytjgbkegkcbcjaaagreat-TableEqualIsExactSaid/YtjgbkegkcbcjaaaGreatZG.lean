/- Part 7 of the proof of TableEqualIsExact (several texts in one; no further condition). -/
import Derived.Test.YtjgbkegkcbcjaaaGreatZE
import Derived.Test.YtjgbkegkcbcjaaaGreatZF
set_option linter.unusedSimpArgs false
set_option linter.unusedVariables false
set_option linter.unusedSectionVars false
namespace Go.Proofs.YtjgbkegkcbcjaaaGreat
open Go Go.RowKit
theorem z5n:z2b Tryz.prog LL:=by
  intro gf i h;unfold z70 at h;obtain ⟨_,h⟩:=zco h;unfold itOf at h;obtain ⟨h1,h⟩:=zco h;cases h;rw [Nat.eq_of_beq_eq_true h1];exact yjs
def cf0:Nat→Option Nat:=fun _=>none
def cf1:Nat→Option Nat:=fun f=>bif Nat.beq f 118 then some 2 else none
theorem yir (n f k:Nat) (args:List Value) (s:CS) (v:Value) (s':CS) (h:cf0 f=some k) (_:zdh Tryz.prog (EE fun _=>none) n f args s=some (v,s')):s'.n≤s.n+k:=by simp [cf0] at h
theorem ymi (n f k:Nat) (args:List Value) (s:CS) (v:Value) (s':CS) (h:cf1 f=some k) (hc:zdh Tryz.prog (EE fun _=>none) n f args s=some (v,s')):s'.n≤s.n+k:=by
  unfold cf1 at h
  cases hb:Nat.beq f 118 with
  |false=>rw [hb] at h;simp at h
  |true =>
    rw [hb] at h;simp only [cond_true,Option.some.injEq] at h;subst h;have e:=Nat.eq_of_beq_eq_true hb;subst e;exact z1y yir rfl (yj3 _) rfl (by kernel_rfl) hc
theorem ykq:AxOk Tryz.prog [] 118 (z69 2 yfd):=ydj z20 zov (zlb.none z5n) rfl (yj3 fun _=>none) rfl yir (by kernel_rfl) yfc
theorem yfu:AxOk Tryz.prog [] 75 (z69 5 z6k):=ydj z20 zov (zlb.none z5n) rfl (fn75 fun _=>none) rfl ymi (by kernel_rfl) ycz
noncomputable def ax1:Axs:=z3u 75 (z69 5 z6k) (z3u 118 (z69 2 yfd) fun _=>none)
theorem ymo:zlb Tryz.prog [] LL ax1:=((zlb.none z5n).add ykq).add yfu
theorem z7l (w:World):Calls Tryz.prog 12 #[] w fun e w'=>e=.returned (.bool true)∧Below w.heap.size w w':=z3s (fuel:=1000000000) z20 zov ymo (fn12 ax1) rfl (by kernel_rfl) w
end Go.Proofs.YtjgbkegkcbcjaaaGreat
