/- Part 7 of the proof of FitKeepsPackets (several texts in one; no further condition). -/
import Derived.Test.YteifcnjpjjaikaaGreatZF
set_option linter.unusedSimpArgs false
set_option linter.unusedVariables false
set_option linter.unusedSectionVars false
namespace Go.Proofs.YteifcnjpjjaikaaGreat
open _root_.And renaming intro->dx
open _root_.Bool renaming and_self->el,not_false->gn,not_true->gp
open _root_.List renaming append_assoc->ey,append_nil->fp,cons_append->fq,drop_succ_cons->jp,drop_zero->fl,flatten_cons->gh,flatten_nil->fg,getElem?_cons_succ->jo,getElem?_cons_zero->fx,length_append->eu,length_cons->ez,length_map->ek,length_nil->gd,nil_append->fb,replicate->ew,set_cons_succ->kb,set_cons_zero->ku
open _root_.Nat renaming reduceAdd->ed,reduceEqDiff->ee,reduceLT->fm,reduceLeDiff->jr,reduceMul->fy,reduceSub->gw,zero_add->f6
open _root_.Option renaming bind_some->dz
open Go.Proofs.YteifcnjpjjaikaaGreat.T renaming ren->py,renL->nu
open Go Go.RowKit
theorem yan:z6r Tryz.prog LL:=by
  intro gf i h;unfold yhm at h;obtain ⟨_,h⟩:=zbo h;cases h
def cf0:Nat->Option Nat:=fun _=>none
theorem yo4 (n f k:Nat) (args:List Value) (s:CS) (v:Value) (s':CS) (h:cf0 f=some k) (_:zeo Tryz.prog (EE fun _=>none) n f args s=some (v,s')):s'.n<=s.n+k:=by simp [cf0] at h
def cf1:Nat->Option Nat:=fun f=>bif Nat.beq f 97 then some 3 else none
theorem ys9 (n f k:Nat) (args:List Value) (s:CS) (v:Value) (s':CS) (h:cf1 f=some k) (hc:zeo Tryz.prog (EE fun _=>none) n f args s=some (v,s')):s'.n<=s.n+k:=by
  unfold cf1 at h
  cases hb:Nat.beq f 97 with
  |false=>rw [hb] at h;simp at h
  |true =>
    rw [hb] at h;simp only [cond_true,Option.some.injEq] at h;subst h;have e:=Nat.eq_of_beq_eq_true hb;subst e;exact z6e yo4 rfl (fn97 _) rfl (by kernel_rfl) hc
theorem yju:AxOk Tryz.prog [] 64 (ycb 6 z2j):=yjt z7u zri (zmx.none yan) rfl (fn64 fun _=>none) rfl ys9 (by kernel_rfl) ydl
theorem yrd:AxOk Tryz.prog [] 90 (ycb 2 ylw):=yjt z7u zri (zmx.none yan) rfl (fn90 fun _=>none) rfl yo4 (by kernel_rfl) ylv
noncomputable def ax1:Axs:=z8x 64 (ycb 6 z2j) (z8x 90 (ycb 2 ylw) fun _=>none)
theorem yth:zmx Tryz.prog [] LL ax1:=((zmx.none yan).add yrd).add yju
theorem yct (w:World):Calls Tryz.prog 8 #[] w fun e w'=>e=.returned (.bool true)/\Below w.heap.size w w':=z8u (fuel:=1000000000) z7u zri yth (fn8 ax1) rfl (by kernel_rfl) w
end Go.Proofs.YteifcnjpjjaikaaGreat
