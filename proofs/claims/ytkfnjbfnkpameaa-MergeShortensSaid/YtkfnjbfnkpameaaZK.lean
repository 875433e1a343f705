/- Part 11 of the proof of MergeShortens (several texts in one; no further condition). -/
import Derived.Test.YtkfnjbfnkpameaaZJ
import Derived.Test.YtkfnjbfnkpameaaZI
set_option linter.unusedSimpArgs false
set_option linter.unusedVariables false
set_option linter.unusedSectionVars false
namespace Go.Proofs.Ytkfnjbfnkpameaa
open _root_.And renaming intro->fi
open _root_.Bool renaming and_self->gl,not_false->iw,not_true->i6
open _root_.List renaming append_assoc->gt,append_nil->ic,cons_append->ib,drop_succ_cons->ld,drop_zero->gu,flatten_cons->ir,flatten_nil->i8,getElem?_cons_succ->lq,getElem?_cons_zero->ik,length_append->gb,length_cons->gq,length_map->f5,length_nil->jl,nil_append->gn,replicate->gi,set_cons_succ->ma,set_cons_zero->ln
open _root_.Nat renaming beq_refl->jg,reduceAdd->gc,reduceEqDiff->f7,reduceLT->i4,reduceLeDiff->ko,reduceMul->jn,reduceSub->i9,zero_add->jc
open _root_.Option renaming bind_some->fj
open Go.Proofs.Ytkfnjbfnkpameaa.T renaming ren->qx,renL->oz
open Go Go.RowKit
theorem ye6 {t:List Rule} {h:Ar 10}:(zqi t h=-1/\hd t h=(-1,[]))\/∃ i:Nat,i<t.length/\zqi t h=(i:Int)/\hd t h=((gx t (i:Int)).step,(gx t (i:Int)).outs):=by
  rcases z7z t h with ⟨a,b⟩|⟨i,hi,a,b,_⟩
  . exact .inl ⟨a,by unfold hd;rw [b]⟩
  . exact .inr ⟨i,hi,a,by unfold hd;rw [b,zdj hi]⟩
theorem z2p (t:List Rule) (h:Ar 10):∃ a b c,((if 0<=zqi t h then (if 0<=zqi t h/\zqi t h<(t.length:Int) then some ((gx t (zqi t h)).prio,((gx t (zqi t h)).mat).mask,((gx t (zqi t h)).mat).bits,(gx t (zqi t h)).step,(gx t (zqi t h)).outs) else none) else some (0,(zA 10),(zA 10),(-1),[])):Option (Int×Ar 10×Ar 10×Int×List (List Alt)))=some (a,b,c,(hd t h).1,(hd t h).2):=by
  rcases ye6 (t:=t) (h:=h) with ⟨e1,e2⟩|⟨i,hi,e1,e2⟩
  . rw [e1,e2,zAd (by decide)];exact ⟨_,_,_,rfl⟩
  . rw [e1,e2,zAc (by omega),zAc ⟨by omega,zam hi⟩];exact ⟨_,_,_,rfl⟩
theorem z2q (n:Net) (t:List Rule) (h:Ar 10) (hn:Held n) (ht:zl9 t):∃ k,zfo k n t h=some true:=by
  refine ⟨big,?_⟩;have hk:big<=big:=Nat.le_refl _;obtain ⟨b,e,hb⟩:=ymg hk n hn t ht 7 (by decide);unfold zfo;rw [e,fj,zl6 h (by decide),fj]
  cases b with
  |false=>rw [zAd (by simp),fj,zAc rfl]
  |true =>
    rw [zAc rfl,fj]
    cases hh:zac h with
    |false=>rw [zAc (show (!false)=true from rfl)]
    |true =>
      obtain ⟨F,R⟩:=rt_of (by decide) ht (hb rfl);have hlen:=R.len;obtain ⟨u,l,e1,hC,hS⟩:=z5d R hk;obtain ⟨Ru,hul,hs⟩:=hC.keep R;obtain ⟨r,_,e2,hr⟩:=yp3 (u:=u) (l:=l) R (by omega) hk;obtain ⟨b2,e3,h3⟩:=yc9 Ru hk;obtain ⟨b3,e4,h4⟩:=z5c Ru hk;have r0:r=0:=hr.2 hC;have b2t:b2=true:=h3.2 hS;have b3t:b3=true:=h4.2 hS;subst r0;subst b2t;subst b3t;obtain ⟨a1,a2,a3,p1⟩:=z2p t h;obtain ⟨c1,c2,c3,p2⟩:=z2p u h;have hu:=Ru.len;rw [zAd (by simp),e1,fj,z1u n 1000 u Ru.ok hk,fj,zAd (fun q=>q Ru.check),zAd (by simp only;omega),e2,fj,zAd (fun q=>q rfl),e3,fj,zAc rfl,e4,fj,fj,zAd (by simp)];rw [zxj t h R.lit.right hh (by simp only [big];omega) hk,fj,zxj u h Ru.lit.right hh (by simp only [big];omega) hk,fj,p1,fj,p2,fj]
      have ho:zhx ⟨c1,⟨c2,c3⟩,(hd t h).1,(hd t h).2⟩:=by
        rcases ye6 (t:=t) (h:=h) with ⟨_,q⟩|⟨i,hi,_,q⟩
        . rw [q];exact ⟨(show (0:Nat)<9223372036854775808 by decide),fun l hl=>by simp at hl⟩
        . rw [q];exact (show zhx (gx t (i:Int)) from R.ok.2 _ (z5p hi))
      show ((zd1 big ⟨c1,⟨c2,c3⟩,(hd t h).1,(hd t h).2⟩ ⟨c1,⟨c2,c3⟩,(hd u h).1,(hd u h).2⟩).bind fun ay=>some ay)=some true;rw [znc _ _ ho hk,fj,hs h hh,zAa rfl]
theorem heldW {n:Net} (h:yl2 n):Held n:=⟨fun x hx=>(h.1.2 x hx).1,fun x hx=>(h.2.2.2 x hx).1⟩
theorem ymr {r:Rule} (h:z6h r):zhx r:=⟨h.2.2.2.1,fun l hl=>(h.2.2.2.2 l hl).1⟩
theorem yov {t:List Rule} (h:t.length<big/\∀ y,y∈t->z6h y):zl9 t:=⟨h.1,fun r hr=>ymr (h.2 r hr)⟩
theorem law4w (n:Net) (t:List Rule) (h:Ar 10) (wn:yl2 n) (wt:t.length<big/\∀ y,y∈t->z6h y) (_:∀ y,y∈h.l->inI y):∃ k,zfo k n t h=some true :=
  z2q n t h (heldW wn) (yov wt)
end Go.Proofs.Ytkfnjbfnkpameaa
