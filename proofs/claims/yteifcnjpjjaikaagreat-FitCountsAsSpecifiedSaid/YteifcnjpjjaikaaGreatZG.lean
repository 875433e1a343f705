/- Part 7 of the proof of FitCountsAsSpecified (several texts in one; no further condition). -/
import Derived.Test.YteifcnjpjjaikaaGreatZF
set_option linter.unusedSimpArgs false
set_option linter.unusedVariables false
set_option linter.unusedSectionVars false
namespace Go.Proofs.YteifcnjpjjaikaaGreat
open _root_.Bool renaming and_self->et,not_false->gc,not_true->f6
open _root_.List renaming append_assoc->fe,append_nil->fj,cons_append->fd,drop_succ_cons->ir,drop_zero->fp,flatten_cons->fm,flatten_nil->io,length_append->er,length_cons->eh,length_map->ec,length_nil->gh,nil_append->ff,replicate->ew
open _root_.Nat renaming beq_refl->gw,reduceAdd->ek,reduceEqDiff->ej,reduceLT->iv,reduceLeDiff->ny,reduceMul->i6,reduceSub->gt,zero_add->fz
open _root_.Option renaming bind_some->dq
open Go Go.RowKit
theorem z8q:z43 Tryz.prog LL:=by
  intro gf i h;unfold yfd at h;obtain ⟨_,h⟩:=za8 h;cases h
def cf0:Nat->Option Nat:=fun _=>none
theorem ymm (n f k:Nat) (args:List Value) (s:CS) (v:Value) (s':CS) (h:cf0 f=some k) (_:zd6 Tryz.prog (EE fun _=>none) n f args s=some (v,s')):s'.n<=s.n+k:=by simp [cf0] at h
def cf1:Nat->Option Nat:=fun f=>bif Nat.beq f 97 then some 3 else none
theorem yqc (n f k:Nat) (args:List Value) (s:CS) (v:Value) (s':CS) (h:cf1 f=some k) (hc:zd6 Tryz.prog (EE fun _=>none) n f args s=some (v,s')):s'.n<=s.n+k:=by
  unfold cf1 at h
  cases hb:Nat.beq f 97 with
  |false=>rw [hb] at h;simp at h
  |true =>
    rw [hb] at h;simp only [cond_true,Option.some.injEq] at h;subst h;have e:=Nat.eq_of_beq_eq_true hb;subst e;exact z4o ymm rfl (fn97 _) rfl (by kernel_rfl) hc
theorem yhj:AxOk Tryz.prog [] 64 (yae 6 z02):=yhi z5y zqr (zmb.none z8q) rfl (fn64 fun _=>none) rfl yqc (by kernel_rfl) ybm
theorem yor:AxOk Tryz.prog [] 90 (yae 2 yjf):=yhi z5y zqr (zmb.none z8q) rfl (fn90 fun _=>none) rfl ymm (by kernel_rfl) yje
noncomputable def ax1:Axs:=z6y 64 (yae 6 z02) (z6y 90 (yae 2 yjf) fun _=>none)
theorem yqi:zmb Tryz.prog [] LL ax1:=((zmb.none z8q).add yor).add yhj
theorem yav (w:World):Calls Tryz.prog 8 #[] w fun e w'=>e=.returned (.bool true)/\Below w.heap.size w w':=z6v (fuel:=1000000000) z5y zqr yqi (fn8 ax1) rfl (by kernel_rfl) w
end Go.Proofs.YteifcnjpjjaikaaGreat
