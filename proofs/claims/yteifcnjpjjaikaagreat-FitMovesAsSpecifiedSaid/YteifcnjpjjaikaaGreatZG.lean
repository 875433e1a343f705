/- Part 7 of the proof of FitMovesAsSpecified (several texts in one; no further condition). -/
import Derived.Test.YteifcnjpjjaikaaGreatZF
set_option linter.unusedSimpArgs false
set_option linter.unusedVariables false
set_option linter.unusedSectionVars false
namespace Go.Proofs.YteifcnjpjjaikaaGreat
open _root_.And renaming intro->dr
open _root_.Bool renaming and_self->ef,not_false->gd,not_true->ge
open _root_.List renaming append_assoc->ew,append_nil->fo,cons_append->fk,drop_succ_cons->jh,drop_zero->fl,flatten_cons->f5,flatten_nil->ff,getElem?_cons_succ->jb,getElem?_cons_zero->fp,length_append->ep,length_cons->et,length_map->ed,length_nil->gb,nil_append->eu,replicate->el,set_cons_succ->jo,set_cons_zero->ju
open _root_.Nat renaming reduceAdd->d8,reduceEqDiff->d9,reduceLT->fm,reduceLeDiff->jk,reduceMul->fw,reduceSub->gp,zero_add->fy
open _root_.Option renaming bind_some->dw
open Go.Proofs.YteifcnjpjjaikaaGreat.T renaming ren->pg,renL->ne
open Go Go.RowKit
theorem yaf:z6n Tryz.prog LL:=by
  intro gf i h;unfold yg5 at h;obtain ⟨_,h⟩:=zbs h;cases h
def cf0:Nat->Option Nat:=fun _=>none
theorem yom (n f k:Nat) (args:List Value) (s:CS) (v:Value) (s':CS) (h:cf0 f=some k) (_:ze1 Tryz.prog (EE fun _=>none) n f args s=some (v,s')):s'.n<=s.n+k:=by simp [cf0] at h
def cf1:Nat->Option Nat:=fun f=>bif Nat.beq f 97 then some 3 else none
theorem ysm (n f k:Nat) (args:List Value) (s:CS) (v:Value) (s':CS) (h:cf1 f=some k) (hc:ze1 Tryz.prog (EE fun _=>none) n f args s=some (v,s')):s'.n<=s.n+k:=by
  unfold cf1 at h
  cases hb:Nat.beq f 97 with
  |false=>rw [hb] at h;simp at h
  |true =>
    rw [hb] at h;simp only [cond_true,Option.some.injEq] at h;subst h;have e:=Nat.eq_of_beq_eq_true hb;subst e;exact z6a yom rfl (fn97 _) rfl (by kernel_rfl) hc
theorem yjc:AxOk Tryz.prog [] 64 (ybz 6 z2i):=yjb z7k zrc (zmw.none yaf) rfl (fn64 fun _=>none) rfl ysm (by kernel_rfl) yc6
theorem yqq:AxOk Tryz.prog [] 90 (ybz 2 yk9):=yjb z7k zrc (zmw.none yaf) rfl (fn90 fun _=>none) rfl yom (by kernel_rfl) yk8
noncomputable def ax1:Axs:=z8o 64 (ybz 6 z2i) (z8o 90 (ybz 2 yk9) fun _=>none)
theorem ysv:zmw Tryz.prog [] LL ax1:=((zmw.none yaf).add yqq).add yjc
theorem yci (w:World):Calls Tryz.prog 8 #[] w fun e w'=>e=.returned (.bool true)/\Below w.heap.size w w':=z8k (fuel:=1000000000) z7k zrc ysv (fn8 ax1) rfl (by kernel_rfl) w
end Go.Proofs.YteifcnjpjjaikaaGreat
