/- Part 10 of the proof of MergeDropsDropping (several texts in one; no further condition). -/
import Derived.Test.YtkfnjbfnkpameaaZI
import Derived.Test.YtkfnjbfnkpameaaZH
import Derived.Test.YtkfnjbfnkpameaaZG
import Derived.KernelRfl
set_option linter.unusedSimpArgs false
set_option linter.unusedVariables false
set_option linter.unusedSectionVars false
namespace Go.Proofs.Ytkfnjbfnkpameaa
set_option maxHeartbeats 8000000
open _root_.And renaming intro->eh
open _root_.Bool renaming and_eq_true->ep,and_self->fm,not_false->gm,not_true->gw
open _root_.Int renaming toNat_natCast->i5
open Go.IntKind renaming i64->ej
open _root_.List renaming append_assoc->fy,append_nil->gn,cons_append->f6,drop_succ_cons->jw,drop_zero->ge,flatMap_cons->im,flatten_cons->gj,flatten_nil->h9,getD_eq_getElem?_getD->fe,getElem?_cons_succ->ki,getElem?_cons_zero->gc,getElem?_eq_getElem->fb,getElem_map->qn,length_append->fi,length_cons->fq,length_map->fc,length_nil->iu,length_singleton->i4,length_take->gq,mem_append->iv,mem_map->i6,nil_append->ft,replicate->fl,set_cons_succ->lc,set_cons_zero->kb,take_add_one->oe,take_append_drop->ip,take_length->me
open _root_.Nat renaming beq_refl->ij,not_lt_zero->lh,reduceAdd->ff,reduceEqDiff->ez,reduceLT->gt,reduceLeDiff->jg,reduceMul->iy,reduceSub->ib,zero_add->ig
open _root_.Option renaming bind_some->em,toList_some->n4
open Go.Proofs.Ytkfnjbfnkpameaa.Pure renaming clr->je
open Go.Proofs.Ytkfnjbfnkpameaa.T renaming int->eo,ren->qc,renL->nw
open Go.Proofs.Ytkfnjbfnkpameaa.TW renaming block->gl,seq->ek
open Go.Proofs.Ytkfnjbfnkpameaa.zan renaming call->f5
set_option maxRecDepth 1000000
open Go Go.RowKit
def z9x (t u:List Rule):Prop:=∀ h,zac h=true->hd t h=hd u h
theorem ydt {k:Nat} {t u:List Rule} {F:List Nat} (ht:Lit t F) (hu:Lit u F) (lt:t.length<=300) (lu:u.length<=300) (ot:zoj t) (hk:big<=k):∃ x b,zgi k t u=some (x,b)/\(b=true↔z9x t u):=by
  obtain ⟨x,f,e,h⟩:=z1z ht hu lt lu ot hk;refine ⟨x,!f,e,fun hb y hy=>?_,fun hs=>?_⟩
  . cases f with
    |false=>exact znw.same h hy
    |true=>cases hb
  . rw [znw.of_same h hs];rfl
structure RtT (n:Net) (t:List Rule) (F:List Nat):Prop where
  lit:Lit t F
  len:t.length<=100
  ok:zoj t
  formed:∀ r,r∈t->formed n 1000 r=true
  dec:(t.map fun r=>r.prio).Pairwise (· > ·)
theorem RtT.of_check {n:Net} {t:List Rule} {F:List Nat} (h:(zpb n 1000 t).2=0) (hl:Lit t F) (h100:t.length<=100) (ho:zoj t):RtT n t F:=by
  obtain ⟨_,hg⟩:=z1c h;refine ⟨hl,h100,ho,ycc h,?_⟩
  have adj:∀ j,j+1<t.length->(t.getD (j+1) default).prio<(t.getD j default).prio:=fun j hj=>by
    have:=hg (j+1) hj;unfold zox at this;rw [ep,decide_eq_true_eq] at this;have h2:=this.2;unfold ye0 at h2;rw [zAd (by omega),show ((j+1:Nat):Int) - 1=(j:Int) by omega,zkc] at h2;exact h2
  have far:∀ d i,i+d+1<t.length->(t.getD (i+d+1) default).prio<(t.getD i default).prio:=by
    intro d
    induction d with
    |zero=>intro i hi;exact adj i hi
    |succ d ih =>
      intro i hi;have a:=ih i (by omega);have b:=adj (i+d+1) (by omega);rw [show i+(d+1)+1=i+d+1+1 by omega];omega
  rw [List.pairwise_iff_getElem];intro i j hi hj hij;rw [fc] at hi hj;rw [qn,qn];have:=far (j - i - 1) i (by omega);rw [show i+(j - i - 1)+1=j by omega,fe,fb hj,fe,fb hi] at this;exact this
theorem zhq {l:List Rule} {o:Nat} {r:Rule} (h:r∈delL l o (o+1)):r∈l:=by
  unfold delL at h;rcases iv.1 h with h|h
  . exact List.mem_of_mem_take h
  . exact List.mem_of_mem_drop h
theorem z6d (l:List Rule) (o:Nat):(delL l o (o+1)).Sublist l:=by
  unfold delL;have h:(l.take o++l.drop (o+1)).Sublist (l.take o++l.drop o):=List.Sublist.append (List.Sublist.refl _) (by rw [<- List.drop_drop];exact List.drop_sublist 1 _);rw [ip] at h;exact h
theorem z6e {l:List Rule} {o:Nat} (ho:o<l.length):(delL l o (o+1)).length+1=l.length:=by rw [zyd (by omega) (by omega)];omega
theorem zzj {t:List Rule} {i:Nat} {m:Pat}:(putM t i m).map (fun r=>r.prio)=t.map fun r=>r.prio:=by
  unfold putM;rw [List.map_set];by_cases h:i<t.length
  . have e:(t.getD i default).prio=(t.map fun r=>r.prio)[i]'(by rw [fc];exact h):=by rw [qn,fe,fb h];rfl
    show (t.map fun r=>r.prio).set i (t.getD i default).prio=_;rw [e,List.set_getElem_self]
  . rw [List.set_eq_of_length_le (by rw [fc];omega)]
theorem zof {t:List Rule} {i j:Nat} {m:Pat} (hij:i<j) (hj:j<t.length) {r:Rule} (h:r∈putM (putM t i m) j m):r∈t\/∃ s,s∈t/\r={ s with mat:=m }:=by
  have h1:=List.mem_or_eq_of_mem_set h;rcases h1 with h1|h1
  . rcases List.mem_or_eq_of_mem_set h1 with h2|h2
    . exact .inl h2
    . exact .inr ⟨_,ze5 (show i<t.length by omega),h2⟩
  . rw [zq5 hj,zAd (by omega)] at h1;exact .inr ⟨_,ze5 hj,h1⟩
theorem z79 {n:Net} {r:Rule} {m:Pat} (h:formed n 1000 r=true) (hm:zag m=true):formed n 1000 { r with mat:=m }=true:=by
  unfold formed at h ⊢;simp only [ep] at h ⊢;exact ⟨h.1,hm,h.2.2⟩
theorem Jn.keep {n:Net} {t u:List Rule} {F:List Nat} {m:Merg} (R:RtT n t F) (h:Jn t m u):RtT n u F/\u.length+1=t.length:=by
  rcases h with ⟨_,_,i,_,hi,rfl⟩|⟨i,j,both,b,_,_,hij,hj,_,hJ,hu⟩
  . have hl:=z6e hi;have hR:=R.len;refine ⟨⟨⟨by have:=R.lit.len;omega,fun r hr=>R.lit.right r (zhq hr),R.lit.few,fun r hr=>R.lit.mask r (zhq hr)⟩,by omega,⟨by have:=R.ok.1;omega,fun r hr=>R.ok.2 r (zhq hr)⟩,fun r hr=>R.formed r (zhq hr),R.dec.sublist ((z6d t i).map _)⟩,hl⟩
  . have hV:(putM (putM t i both) j both).length=t.length:=by rw [zhp,zhp]
    have mi:t.getD i default∈t:=ze5 (by omega);have hb:=hJ.right (R.lit.right _ mi)
    have hmask:∀ x,x<160->hbit both.mask x=true->x∈F:=fun x hx hm=>by
      rw [hJ.mask x hx,ep] at hm;exact R.lit.mask _ mi x hx hm.1
    have key:∀ o,o<t.length->RtT n (delL (putM (putM t i both) j both) o (o+1)) F/\(delL (putM (putM t i both) j both) o (o+1)).length+1=t.length:=fun o ho=>by
      have hl:=z6e (l:=putM (putM t i both) j both) (o:=o) (by rw [hV];exact ho);rw [hV] at hl;have hR:=R.len;refine ⟨⟨⟨by have:=R.lit.len;omega,fun r hr=>?_,R.lit.few,fun r hr=>?_⟩,by omega,⟨by have:=R.ok.1;omega,fun r hr=>?_⟩,fun r hr=>?_,?_⟩,hl⟩
      . rcases zof hij hj (zhq hr) with h|⟨s,_,rfl⟩
        . exact R.lit.right r h
        . exact hb
      . rcases zof hij hj (zhq hr) with h|⟨s,_,rfl⟩
        . exact R.lit.mask r h
        . exact hmask
      . rcases zof hij hj (zhq hr) with h|⟨s,hs,rfl⟩
        . exact R.ok.2 r h
        . exact R.ok.2 s hs
      . rcases zof hij hj (zhq hr) with h|⟨s,hs,rfl⟩
        . exact R.formed r h
        . exact z79 (R.formed s hs) hb
      . have:=R.dec;rw [<- zzj (t:=t) (i:=i) (m:=both),<- zzj (t:=putM t i both) (i:=j) (m:=both)] at this;exact this.sublist ((z6d _ o).map _)
    rcases hu with ⟨_,rfl⟩|⟨_,rfl⟩
    . exact key j hj
    . exact key i (by omega)
theorem zl5 (r:Rule) (t:List Rule) (h:Ar 10):hd (r :: t) h=if zax r.mat h=true then (r.step,r.outs) else hd t h:=by
  unfold hd;rw [List.find?_cons];cases zax r.mat h<;>rfl
theorem yhh (a b c:List Rule) (h:Ar 10) (e:hd b h=hd c h):hd (a++b) h=hd (a++c) h:=by
  induction a with
  |nil=>exact e
  |cons r a ih=>rw [f6,f6,zl5,zl5,ih]
theorem z37 {t:List Rule} {o:Nat} (ho:o<t.length):t=t.take o++t.getD o default :: t.drop (o+1):=by
  have:t.getD o default=t[o]:=by rw [fe,fb ho];rfl
  rw [this,<- List.drop_eq_getElem_cons ho,ip]
theorem yhg {t:List Rule} {o:Nat} {h:Ar 10} (ho:o<t.length) (hm:zax (t.getD o default).mat h=false):hd (delL t o (o+1)) h=hd t h:=by
  conv=>rhs;rw [z37 ho]
  unfold delL;refine yhh _ _ _ _ ?_;rw [zl5,zAd (by rw [hm];simp)]
theorem yhf {t:List Rule} {i:Nat} {m:Pat} {h:Ar 10} (hi:i<t.length) (h1:zax (t.getD i default).mat h=false) (h2:zax m h=false):hd (putM t i m) h=hd t h:=by
  conv=>rhs;rw [z37 hi]
  unfold putM;rw [List.set_eq_take_append_cons_drop,zAc hi];refine yhh _ _ _ _ ?_;rw [zl5,zl5,zAd (show ¬ zax m h=true by rw [h2];simp),zAd (by rw [h1];simp)]
theorem zk6.into {p q r:Pat} {i:Nat} (h:zk6 p q r i) {x:Ar 10} (hm:zax p x=true\/zax q x=true):zax r x=true:=by
  refine za1.2 fun j hj hb=>?_;rw [h.mask j hj,ep] at hb;have hne:j≠i:=by simpa using hb.2
  rw [h.bits j hj,zAb hne];rcases hm with hm|hm
  . rw [za1.1 hm j hj hb.1];simp
  . rw [h.one j hj hne,za1.1 hm j hj (by rw [<- h.eq];exact hb.1)];simp
def Pm (t:List Rule) (m:Merg) (p:Pat):Prop:=(m.kind=1/\p=(t.getD m.i.toNat default).mat)\/(m.kind≠1/\∃ b,zk6 (t.getD m.i.toNat default).mat (t.getD m.k.toNat default).mat p b)
theorem Jn.outside {t u:List Rule} {m:Merg} {p:Pat} (h:Jn t m u) (hp:Pm t m p) {x:Ar 10} (hx:zax p x=false):hd t x=hd u x:=by
  rcases h with ⟨h1,_,i,h2,hi,rfl⟩|⟨i,j,both,b,h1,h2,hij,hj,_,hJ,hu⟩
  . rcases hp with ⟨_,rfl⟩|⟨h3,_⟩
    . rw [h2,i5] at hx;exact (yhg hi hx).symm
    . exact absurd h1 h3
  . have hk:m.kind≠1:=by rcases hu with ⟨e,_⟩|⟨e,_⟩<;>omega
    rcases hp with ⟨h3,_⟩|⟨_,b',hp⟩
    . exact absurd h3 hk
    . rw [h1,h2,i5,i5] at hp;obtain rfl:=hp.uniq hJ
      have a1:zax (t.getD i default).mat x=false:=by
        cases c:zax (t.getD i default).mat x with
        |false=>rfl
        |true=>rw [hJ.into (.inl c)] at hx;cases hx
      have a2:zax (t.getD j default).mat x=false:=by
        cases c:zax (t.getD j default).mat x with
        |false=>rfl
        |true=>rw [hJ.into (.inr c)] at hx;cases hx
      have e1:=yhf (m:=p) (show i<t.length by omega) a1 hx;have hj1:j<(putM t i p).length:=by rw [zhp];exact hj
      have e2:=yhf (t:=putM t i p) (m:=p) hj1 (by rw [zq5 hj,zAd (by omega)];exact a2) hx
      have g:∀ o,o<t.length->(o=i\/o=j)->hd (delL (putM (putM t i p) j p) o (o+1)) x=hd (putM (putM t i p) j p) x:=fun o ho ho2=>by
        refine yhg (by rw [zhp,zhp];exact ho) ?_;rw [yd7 ho,zAc ho2];exact hx
      rcases hu with ⟨_,rfl⟩|⟨_,rfl⟩
      . rw [g j hj (.inr rfl),e2,e1]
      . rw [g i (by omega) (.inl rfl),e2,e1]
def aR (k:Nat) (p q:Pat):Pat×Bool:=(zht k p q).getD (p,false)
theorem yfp {k:Nat} {p q:Pat} (hp:zag p=true) (hq:zag q=true) (hk:10<k):zht k p q=some (aR k p q)/\((zd3 p q=false/\(aR k p q).2=false)\/(zd3 p q=true/\(aR k p q).2=true/\Meet p q (aR k p q).1)):=by
  obtain ⟨r,e,h⟩:=z62 hp hq hk;unfold aR;rw [e];exact ⟨rfl,h⟩
def cutR (k:Nat) (p:Pat) (r:Rule):List Rule:=if (aR k r.mat p).2=true then [{ r with mat:=(aR k r.mat p).1 }] else []
def cutT (k:Nat) (p:Pat) (t:List Rule):List Rule:=t.flatMap (cutR k p)
theorem zmv (k:Nat) (p:Pat):∀ t:List Rule,(cutT k p t).length<=t.length
  |[]=>Nat.le_refl _
  |r :: t=>by
    have:=zmv k p t;unfold cutT at this ⊢;rw [im,fi,fq];have:(cutR k p r).length<=1:=by unfold cutR;split<;>simp
    omega
theorem ycn (k:Nat) (p:Pat) (t:List Rule) (r:Rule):cutT k p (t++[r])=cutT k p t++cutR k p r:=by unfold cutT;rw [List.flatMap_append,List.flatMap_singleton]
theorem zye {k:Nat} {p:Pat} {t:List Rule} {r:Rule} (h:r∈cutT k p t):∃ s,s∈t/\(aR k s.mat p).2=true/\r={ s with mat:=(aR k s.mat p).1 }:=by
  unfold cutT at h;obtain ⟨s,hs,h⟩:=List.mem_flatMap.1 h;unfold cutR at h;split at h
  . rename_i hb;exact ⟨s,hs,hb,by simpa using h⟩
  . simp at h
theorem z6g {k:Nat} {p:Pat} {t:List Rule} {F:List Nat} (h:Lit t F) (hp:zag p=true) (hpF:∀ j,j<160->hbit p.mask j=true->j∈F) (hk:10<k):Lit (cutT k p t) F:=by
  refine ⟨Nat.le_trans (zmv k p t) h.len,fun r hr=>?_,h.few,fun r hr=>?_⟩
  . obtain ⟨s,hs,hb,rfl⟩:=zye hr;rcases (yfp (h.right s hs) hp hk).2 with ⟨_,e⟩|⟨_,_,hM⟩
    . rw [hb] at e;cases e
    . exact hM.right (h.right s hs) hp
  . obtain ⟨s,hs,hb,rfl⟩:=zye hr;rcases (yfp (h.right s hs) hp hk).2 with ⟨_,e⟩|⟨_,_,hM⟩
    . rw [hb] at e;cases e
    . exact hM.into (h.mask s hs) hpF
theorem ykb {k:Nat} {p:Pat} {t:List Rule} (h:zoj t):zoj (cutT k p t):=by
  refine ⟨Nat.lt_of_le_of_lt (zmv k p t) h.1,fun r hr=>?_⟩;obtain ⟨s,hs,_,rfl⟩:=zye hr;exact h.2 s hs
theorem z0m {k:Nat} {p:Pat} {x:Ar 10} (hp:zag p=true) (hk:10<k):∀ t:List Rule,(∀ r,r∈t->zag r.mat=true)->hd (cutT k p t) x=if zax p x=true then hd t x else (-1,[])
  |[],_=>by
    show hd [] x=_
    split<;>rfl
  |r :: t,hr=>by
    have ih:=z0m (x:=x) hp hk t fun s hs=>hr s (.tail _ hs);have e:cutT k p (r :: t)=cutR k p r++cutT k p t:=by unfold cutT;rw [im]
    rw [e];rcases (yfp (hr r (.head _)) hp hk).2 with ⟨ho,hb⟩|⟨ho,hb,hM⟩
    . unfold cutR;rw [hb,zAd (by simp),ft,ih];by_cases c:zax p x=true
      . rw [zAc c,zAc c,zl5,zAd];intro hm;rw [zxs hm c] at ho;cases ho
      . rw [zAd c,zAd c]
    . unfold cutR;rw [hb,zAc rfl,List.singleton_append,zl5,ih,zl5];have:=hM.match ho x
      by_cases c:zax p x=true
      . rw [zAc c,zAc c];by_cases d:zax r.mat x=true
        . rw [zAc (this.2 ⟨d,c⟩),zAc d]
        . rw [zAd (fun h=>d (this.1 h).1),zAd d]
      . rw [zAd c,zAd c,zAd (fun h=>c (this.1 h).2)]
theorem ygb {k:Nat} {p:Pat} {t:List Rule} (ht:∀ r,r∈t->zag r.mat=true) (hp:zag p=true) (hl:t.length<=1000) (hk:big<=k):zfp k t p=some (cutT k p t):=by
  have hk10:10<k:=by simp only [big] at hk;omega
  have key:∀ c i,i<=t.length->t.length - i<c->zbq k t p c (i:Int) (cutT k p (t.take i)) (cutT k p (t.take i)).length=some (cutT k p t,(cutT k p t).length):=by
    intro c
    induction c with
    |zero=>intro i h1 h2;omega
    |succ c ih =>
      intro i h1 h2;rw [zbq];by_cases ci:i<t.length
      . have hL:=zmv k p (t.take i);rw [gq] at hL;have ih:=ih (i+1) (by omega) (by omega);rw [oe,fb ci,n4,ycn] at ih;rw [zAc (zbg ci),zAc ⟨by omega,zbg ci⟩,zg3 ci,(yfp (ht _ (List.getElem_mem ci)) hp hk10).1,em,zcc i (by omega)];unfold cutR at ih;by_cases hb:(aR k t[i].mat p).2=true
        . rw [zAc hb,fi,i4] at ih;rw [zAc hb,zAc (by omega)];exact ih
        . rw [zAd hb,gn] at ih;rw [zAd hb];exact ih
      . obtain rfl:i=t.length:=by omega
        rw [zAd (by omega),me]
  have:=key k 0 (Nat.zero_le _) (by simp only [big] at hk;omega);rw [show ((0:Nat):Int)=0 from rfl,List.take_zero] at this;unfold zfp;change zbq k t p k 0 [] 0=_ at this;rw [this,em,zAc rfl]
def Ap (t:List Rule) (m:Merg) (u:List Rule):Prop:=Jn t m u/\z9x t u
def z1x (t:List Rule) (m:Merg) (r:List Rule×Int):Prop:=(r.2=0/\Ap t m r.1)\/(r=([],1)/\∀ u,¬ Jn t m u)\/(r=([],7)/\∃ u,Jn t m u/\¬ z9x t u)
theorem z1x.uniq {t:List Rule} {m:Merg} {r s:List Rule×Int} (h:z1x t m r) (k:z1x t m s):r=s:=by
  rcases h with ⟨h1,h2,h3⟩|⟨h1,h2⟩|⟨h1,u,h2,h3⟩
  . rcases k with ⟨k1,k2,k3⟩|⟨k1,k2⟩|⟨k1,v,k2,k3⟩
    . have:=h2.uniq k2;cases r;cases s;simp only at h1 k1 this;rw [h1,k1,this]
    . exact absurd h2 (k2 _)
    . have:=h2.uniq k2;rw [this] at h3;exact absurd h3 k3
  . rcases k with ⟨k1,k2,k3⟩|⟨k1,k2⟩|⟨k1,v,k2,k3⟩
    . exact absurd k2 (h2 _)
    . rw [h1,k1]
    . exact absurd k2 (h2 _)
  . rcases k with ⟨k1,k2,k3⟩|⟨k1,k2⟩|⟨k1,v,k2,k3⟩
    . have:=h2.uniq k2;rw [this] at h3;exact absurd k3 h3
    . exact absurd h2 (k2 _)
    . rw [h1,k1]
theorem Ap.uniq {t u v:List Rule} {m:Merg} (h:Ap t m u) (k:Ap t m v):u=v:=h.1.uniq k.1
theorem z1x.ok {t:List Rule} {m:Merg} {r:List Rule×Int} (h:z1x t m r):r.2=0↔∃ u,Ap t m u:=by
  rcases h with ⟨h1,h2⟩|⟨h1,h2⟩|⟨h1,u,h2,h3⟩
  . exact ⟨fun _=>⟨_,h2⟩,fun _=>h1⟩
  . refine ⟨fun e=>?_,fun ⟨u,a,_⟩=>absurd a (h2 u)⟩;rw [h1] at e;cases e
  . refine ⟨fun e=>?_,fun ⟨v,a,b⟩=>?_⟩
    . rw [h1] at e;cases e
    . rw [a.uniq h2] at b;exact absurd b h3
theorem z1x.ap {t:List Rule} {m:Merg} {r:List Rule×Int} (h:z1x t m r) (h0:r.2=0):Ap t m r.1:=by
  rcases h with ⟨_,h2⟩|⟨h1,_⟩|⟨h1,_⟩
  . exact h2
  . rw [h1] at h0;cases h0
  . rw [h1] at h0;cases h0
theorem yjp (p:Pat):(⟨p.mask,p.bits⟩:Pat)=p:=rfl
theorem yjh {k:Nat} {n:Net} {t u:List Rule} {F:List Nat} {m:Merg} {p:Pat} (R:RtT n t F) (hJ:Jn t m u) (hP:Pm t m p) (hp:zag p=true) (hpF:∀ j,j<160->hbit p.mask j=true->j∈F) (hk:big<=k):∃ b,zir k t u p=some b/\(b=true↔z9x t u):=by
  have hk10:10<k:=by simp only [big] at hk;omega
  obtain ⟨Ru,hlen⟩:=hJ.keep R;have l1:=R.len;have l2:=zmv k p t;have l3:=zmv k p u;obtain ⟨x,b,e,hb⟩:=ydt (z6g R.lit hp hpF hk10) (z6g Ru.lit hp hpF hk10) (by omega) (by omega) (ykb R.ok) hk;unfold zir;rw [ygb R.lit.right hp (by omega) hk,em,ygb Ru.lit.right hp (by omega) hk,em,e,em];refine ⟨b,rfl,hb.trans ⟨fun h y hy=>?_,fun h y hy=>?_⟩⟩
  . have:=h y hy;rw [z0m hp hk10 t R.lit.right,z0m hp hk10 u Ru.lit.right] at this;by_cases c:zax p y=true
    . rw [zAc c,zAc c] at this;exact this
    . exact hJ.outside hP (by simpa using c)
  . rw [z0m hp hk10 t R.lit.right,z0m hp hk10 u Ru.lit.right,h y hy]
theorem z2w {k:Nat} {n:Net} {t:List Rule} {F:List Nat} {m:Merg} (R:RtT n t F) (hk:big<=k):∃ r,zea k t m=some r/\z1x t m r:=by
  have hk10:10<k:=by simp only [big] at hk;omega
  have l1:=R.len;obtain ⟨r,e,hr⟩:=z7y (m:=m) R.ok R.lit.right (by omega) hk;unfold zea;rw [e,em];rcases hr with ⟨h0,hJ⟩|⟨h0,hJ⟩
  . rw [zAd (fun h=>h h0)]
    have hP:∃ p,(((if m.kind≠1 then (if 0<=m.k/\m.k<(t.length:Int) then ((zhh k ((gx t m.i).mat) ((gx t m.k).mat)).bind fun bj=>some (bj.1.mask,bj.1.bits)) else none) else some (((gx t m.i).mat).mask,((gx t m.i).mat).bits)):Option (Ar 10×Ar 10))=some (p.mask,p.bits))/\Pm t m p/\zag p=true/\(∀ j,j<160->hbit p.mask j=true->j∈F)/\0<=m.i/\m.i<(t.length:Int):=by
      rcases hJ with ⟨h1,h2,i,h3,hi,hu⟩|⟨i,j,both,b,h1,h2,hij,hj,_,hB,hu⟩
      . have mi:t.getD i default∈t:=ze5 hi;refine ⟨(t.getD i default).mat,?_,.inl ⟨h1,by rw [h3,i5]⟩,R.lit.right _ mi,R.lit.mask _ mi,by omega,by omega⟩;rw [zAd (fun h=>h h1),h3];rfl
      . have mi:t.getD i default∈t:=ze5 (by omega);have mj:t.getD j default∈t:=ze5 hj;have hk1:m.kind≠1:=by rcases hu with ⟨e,_⟩|⟨e,_⟩<;>omega
        obtain ⟨q,q1,q2⟩:=z1o (k:=k) (R.lit.right _ mi) (R.lit.right _ mj) hk10
        have hq:∃ b',zk6 (t.getD i default).mat (t.getD j default).mat q.1 b':=by
          rcases q2 with ⟨_,b',q3⟩|⟨_,q3⟩
          . exact ⟨b',q3⟩
          . exact absurd ⟨_,_,hB⟩ q3
        obtain ⟨b',hq⟩:=hq;refine ⟨q.1,?_,.inr ⟨hk1,b',by rw [h1,h2,i5,i5];exact hq⟩,hq.right (R.lit.right _ mi),fun x hx hm=>?_,by omega,by omega⟩
        . rw [zAc hk1,zAc ⟨by omega,by omega⟩,h1,h2,zkc,zkc,q1];rfl
        . rw [hq.mask x hx,ep] at hm;exact R.lit.mask _ mi x hx hm.1
    obtain ⟨p,e1,hP,hp,hpF,i0,i1⟩:=hP;obtain ⟨b,e2,hb⟩:=yjh R hJ hP hp hpF hk;rw [zAc ⟨i0,i1⟩,e1,em,yjp,e2,em];by_cases c:b=true
    . rw [zAc c];exact ⟨_,rfl,.inl ⟨rfl,hJ,hb.1 c⟩⟩
    . rw [zAd c];exact ⟨_,rfl,.inr (.inr ⟨rfl,_,hJ,fun h=>c (hb.2 h)⟩)⟩
  . rw [zAc (by rw [h0];simp),h0];exact ⟨_,rfl,.inr (.inl ⟨rfl,hJ⟩)⟩
inductive Chn:List Rule->List Merg->List Rule->Prop where
  |nil (t:List Rule):Chn t [] t
  |cons {t u v:List Rule} {m:Merg} {l:List Merg}:Ap t m u->Chn u l v->Chn t (m :: l) v
theorem Chn.keep {n:Net} {t u:List Rule} {F:List Nat} {l:List Merg} (h:Chn t l u) (R:RtT n t F):RtT n u F/\u.length+l.length=t.length/\z9x t u:=by
  induction h with
  |nil t=>exact ⟨R,rfl,fun _ _=>rfl⟩
  |cons ha _ ih =>
    obtain ⟨R1,e1⟩:=ha.1.keep R;obtain ⟨R2,e2,s2⟩:=ih R1;refine ⟨R2,by rw [fq];omega,fun y hy=>(ha.2 y hy).trans (s2 y hy)⟩
theorem Chn.uniq {t u v:List Rule} {l:List Merg} (h:Chn t l u) (k:Chn t l v):u=v:=by
  induction h with
  |nil t=>cases k;rfl
  |cons a _ ih =>
    cases k with
    |cons b c=>rw [b.uniq a] at c;exact ih c
def z9a (t:List Rule):Prop:=∀ m u,¬ Ap t m u
theorem z00:∀ {n i:Nat},i<n->(⟨1,(i:Int),0⟩:Merg)∈zo9 n
  |0,i,h=>absurd h (lh _)
  |n+1,i,h=>by
    rw [zo9,iv];by_cases c:i<n
    . exact .inl (z00 c)
    . obtain rfl:i=n:=by omega
      exact .inr (by simp)
theorem zzo {t:List Rule} {k i:Nat} (he:(gx t (i:Int)).mat.mask=(gx t (k:Int)).mat.mask):∀ {j:Nat},i<j->(⟨2,(i:Int),(k:Int)⟩:Merg)∈zlq t k j/\(⟨3,(i:Int),(k:Int)⟩:Merg)∈zlq t k j
  |0,h=>absurd h (lh _)
  |j+1,h=>by
    rw [zlq,iv,iv];by_cases c:i<j
    . have:=zzo he c;exact ⟨.inl this.1,.inl this.2⟩
    . obtain rfl:i=j:=by omega
      rw [zAc he];exact ⟨.inr (by simp),.inr (by simp)⟩
theorem z3q {t:List Rule} {m:Merg} {k:Nat} (h:m∈zlq t k k):∀ {n:Nat},k<n->m∈allL t n
  |0,c=>absurd c (lh _)
  |n+1,c=>by
    rw [allL,iv];by_cases d:k<n
    . exact .inl (z3q h d)
    . obtain rfl:k=n:=by omega
      exact .inr h
theorem Ap.mem {t u:List Rule} {m:Merg} (h:Ap t m u):m∈zqy t:=by
  obtain ⟨h,_⟩:=h;unfold zqy;rw [iv];obtain ⟨kd,mi,mk⟩:=m;rcases h with ⟨h1,h2,i,h3,hi,_⟩|⟨i,j,both,b,h1,h2,hij,hj,_,hJ,hu⟩
  . simp only at h1 h2 h3;subst h1;subst h2;subst h3;exact .inl (z00 hi)
  . simp only at h1 h2 hu;subst h1;subst h2;have:=zzo (t:=t) (k:=j) (i:=i) hJ.eq hij;rcases hu with ⟨rfl,_⟩|⟨rfl,_⟩
    . exact .inr (z3q this.1 hj)
    . exact .inr (z3q this.2 hj)
theorem yjw {n:Net} {t:List Rule} {F:List Nat} (R:RtT n t F):zsn t:=by
  have:=R.len;exact ⟨by omega,fun r hr=>z2r (zam.1 (R.lit.right r hr)).1⟩
theorem z68 {k:Nat} {n:Net} {x:List Rule} {F:List Nat} (R:RtT n x F) (hk:big<=k) (l:List Merg) (hl:l.length<=1000) (kc:List Rule->List Merg->Nat->Option (List Rule×List Merg)):∀ ms:List Merg,
    (zb2 k x l l.length kc ms=some (x,l)/\∀ m,m∈ms->∀ u,¬ Ap x m u)\/∃ m u,m∈ms/\Ap x m u/\zb2 k x l l.length kc ms=kc u (l++[m]) (l++[m]).length
  |[]=>.inl ⟨by rw [zb2,zAc rfl],fun m hm=>by simp at hm⟩
  |m :: ms=>by
    obtain ⟨r,e,hr⟩:=z2w (m:=m) R hk;rw [zb2,e,em];by_cases h0:r.2=0
    . rw [zAc h0,zAc (by omega)];exact .inr ⟨m,r.1,.head _,hr.ap h0,by rw [fi,i4]⟩
    . rw [zAd h0];rcases z68 R hk l hl kc ms with ⟨h1,h2⟩|⟨m',u,h1,h2,h3⟩
      . refine .inl ⟨h1,fun m' hm=>?_⟩;rcases List.mem_cons.1 hm with rfl|hm
        . exact fun u hu=>h0 (hr.ok.2 ⟨u,hu⟩)
        . exact h2 m' hm
      . exact .inr ⟨m',u,.tail _ h1,h2,h3⟩
theorem yft {k:Nat} {n:Net} {F:List Nat} (hk:big<=k):∀ c (x:List Rule) (l:List Merg),RtT n x F->x.length<c->l.length+x.length<=1000 ->
    ∃ u l2,zb1 k c x l l.length=some (u,l++l2)/\Chn x l2 u/\z9a u:=by
  intro c
  induction c with
  |zero=>intro x l _ h;omega
  |succ c ih =>
    intro x l R hc hl;rw [zb1,zAc (yjw R)];rcases z68 R hk l (by omega) (zb1 k c) (zqy x) with ⟨h1,h2⟩|⟨m,u,h1,h2,h3⟩
    . refine ⟨x,[],by rw [h1,gn],.nil x,fun m u hu=>h2 m hu.mem u hu⟩
    . obtain ⟨Ru,hlen⟩:=h2.1.keep R;obtain ⟨v,l2,e,hC,hS⟩:=ih u (l++[m]) Ru (by omega) (by rw [fi,i4];omega);exact ⟨v,m :: l2,by rw [h3,e,fy];rfl,.cons h2 hC,hS⟩
theorem z2v {k:Nat} {n:Net} {t:List Rule} {F:List Nat} (R:RtT n t F) (hk:big<=k):∃ u l,zb8 k t=some (u,l)/\Chn t l u/\z9a u:=by
  have hlen:=R.len;obtain ⟨u,l2,e,hC,hS⟩:=yft (n:=n) (F:=F) hk k t [] R (by simp only [big] at hk;omega) (by simp;omega);unfold zb8;rw [zAc (by omega),zAc rfl];rw [ft] at e;exact ⟨u,l2,e,hC,hS⟩
theorem rt_of {n:Net} {t:List Rule} {most:Int} (hm:most<=100) (ht:zoj t) (h:(t.length:Int)<=most/\(zpb n 1000 t).2=0/\∃ F,Lit t F):∃ F,RtT n t F:=by
  obtain ⟨h1,h2,F,h3⟩:=h;exact ⟨F,RtT.of_check h2 h3 (by omega) ht⟩
def zav (k:Nat) (t:List Rule):Nat->Int->(List Rule)->Nat->Option (List Rule×Nat)
 |0,_,_,_=>none
 |m+1,i,l,n2=>(if i<(t.length:Int) then (if 0<=i/\i<(t.length:Int) then (if (n2+1)*201<=1000000000 then zav k t m (ej.wrap (i+1)) (l++[(⟨(gx t i).prio,((gx t i).mat),(-1),[]⟩:Rule)]) (n2+1) else none) else none) else some (l,n2))
def zbc (k:Nat) (count:Int):Nat->Int->Int->Option Int
 |0,_,_=>none
 |m+1,size,i2=>(if i2<count then zbc k count m (ej.wrap (size*2)) (ej.wrap (i2+1)) else some size)
def zbb (k:Nat) (s_4:Int):Nat->Int->(List (List Int))->Nat->Option (List (List Int)×Nat)
 |0,_,_,_=>none
 |m+1,v_,l2,n3=>(if v_<s_4 then (if (n3+1)*25<=1000000000 then zbb k s_4 m (ej.wrap (v_+1)) (l2++[[ej.wrap ((ej.wrap (s_4 - 1))+256),ej.wrap (v_+256),1]]) (n3+1) else none) else some (l2,n3))
def zct (k:Nat) (n:Net) (t:List Rule) (count:Int):Option Bool:=((zn7 k n t 10).bind fun d8=>(((if d8=true then (if count<0 then some true else some (decide (2<count))) else some true):Option Bool).bind fun s_=>(if s_=true then some true else ((zav k t k 0 [] 0:Option (List Rule×Nat)).bind fun s_2=>(if s_2.1.length=s_2.2 then ((zb8 k s_2.1).bind fun ab=>(((if (ab.1.length:Int)≠0 then some true else some (decide ((ab.2.length:Int)≠(t.length:Int)))):Option Bool).bind fun s_3=>(if s_3=true then some false else ((zbc k count k 1 0:Option Int).bind fun s_4=>((zbb k s_4 k 0 [] 0:Option (List (List Int)×Nat)).bind fun s_5=>(if s_5.1.length=s_5.2 then ((zfo k s_5.1).bind fun ai=>((zb8 k ai).bind fun ak=>(if (ak.1.length:Int)=1 then (if (ak.2.length:Int)=(ej.wrap (s_4 - 1)) then (if (0:Int)<=0/\0<(ak.1.length:Int) then some (decide (((gx ak.1 0).mat)=(⟨(mkAr 10 [256]),(mkAr 10 [256])⟩:Pat))) else none) else some false) else some false))) else none)))))) else none)))))
theorem zj6 (ax:Axs) (hx:yky ax) (k:Nat) (n:Net) (t:List Rule) (count:Int) (v:Bool) (H:zct k n t count=some v):Pure Try.prog (EE ax) [] 7 [eNet n,zah t,.int .i64 count] (.bool v):=by
 rw [zct] at H;refine en [.tmp 6] 114 [0,1,2] (hx.no _ (by decide)) (fn7 ax) ?_;intro h hh;apply ek;refine rk [1,2,3] [] hh fun h hh=>?_;obtain ⟨d8,e1,H⟩:=zae H;apply ek;refine rkp [1,2,7] [] [.bool d8] hh ?_ ?_
 .exact ⟨f5 ((z2a ax hx k n t 10 d8 e1 ).call _),trivial⟩
 clear hh h;intro h hh;obtain ⟨s_,H1,H⟩:=zae H;repeat apply ek
 refine cu [1,2,31] 1 (fun h bs=>(h 1=zah t/\h 2=.int .i64 count/\h 31=.bool s_)/\bs=[.cells true 3 [zdt n.nodes,zdu n.links,zdv n.edges]]) ?_ ?_
 .skip;rcases isb H1 with ⟨c2,H1⟩|⟨c2,H1⟩;rotate_left
  .skip;refine rk [1,2,31] [] (f2 hh c2) fun h hh=>?_;cases H1;exact ce hh ⟨kq hh,rfl⟩
  rcases isp H1 with ⟨c3,H1⟩|⟨c3,H1⟩;rotate_left
  .skip;refine rk [1,2,31] [] (f3 hh c2 (zAb c3)) fun h hh=>?_;cases H1;exact ce hh ⟨kq hh,rfl⟩
  refine rk [1,2,31] [] (f3 hh c2 (zAa c3)) fun h hh=>?_;cases H1;exact ce hh ⟨kq hh,rfl⟩
 clear hh h;rintro h bs ⟨hh,rfl⟩;rcases isb H with ⟨c4,H⟩|⟨c4,H⟩;rotate_left
 .skip;refine cf (f2 hh c4) ?_;refine sk ?_;apply ek;refine rk [1,2,8] [] (f2 hh c4) fun h hh=>?_;refine vk 8 23 [1,2,8] hh fun h hh=>?_;repeat apply ek
  refine rk [1,2,8,9] [] (f2 hh c4) fun h hh=>?_;obtain ⟨s_2,H1,H⟩:=zae H;refine cu [1,2,8] 2 (fun h bs=>(h 1=zah t/\h 2=.int .i64 count/\h 8=.arr 1 23 0 s_2.2 s_2.2 (s_2.2*23))/\bs=[.cells true 3 [zdt n.nodes,zdu n.links,zdv n.edges],.cells false (s_2.2*23) (vecC zao s_2.1)]) ?_ ?_
  .skip;apply gl;refine TW.loopT [1,2,8,9] (fun m h bs=>∃ (i:Int) (l:List Rule) (n2:Nat),zav k t m i l n2=some s_2/\(h 1=zah t/\h 2=.int .i64 count/\h 8=.arr 1 23 0 n2 n2 (n2*23)/\h 9=.int .i64 i)/\bs=[.cells true 3 [zdt n.nodes,zdu n.links,zdv n.edges],.cells false (n2*23) (vecC zao l)]) ?_ k _ _ ?_;rotate_left
   .exact ⟨0,[],0,H1,kq hh,rfl⟩
   clear hh h H1;rintro m h bs ⟨i,l,n2,H1,hh,rfl⟩;rcases m with _|m
   .rw [zav] at H1;cases H1
   rw [zav] at H1;repeat apply ek
   refine rk [1,2,8,9,36] [] (f2 hh c4) fun h hh=>?_;rcases isp H1 with ⟨c5,H1⟩|⟨c5,H1⟩;rotate_left
   .skip;refine cf (f2 hh (zAb c5)) ?_;refine xk ?_;cases H1;exact ce hh ⟨kq hh,rfl⟩
   refine ct (f2 hh (zAa c5)) ?_;refine sk ?_;apply ek;apply gl;obtain ⟨g6,H1⟩:=isg H1;apply ek;refine rk [1,2,8,9,10] [] (f3 hh c4 (zak g6)) fun h hh=>?_;apply ek;refine rk [1,2,8,9,10] [] (f2 hh c4) fun h hh=>?_;apply ek;refine rk [1,2,8,9,10] [] (f2 hh c4) fun h hh=>?_;refine nz 2 22 1 ?_;obtain ⟨g7,H1⟩:=isg H1;refine rg [] [] [.cells true 3 [zdt n.nodes,zdu n.links,zdv n.edges],.cells false ((n2+1)*23) (vecC zao (l++[(⟨(gx t i).prio,((gx t i).mat),(-1),[]⟩:Rule)])),.cells true 23 (eo .i64 ((gx t i).prio) :: ((((gx t i).mat).mask).l.map (eo .i64)++((((gx t i).mat).bits).l.map (eo .i64)++[eo .i64 (-1),zbs []])))] (fun h=>h 1=zah t/\h 2=.int .i64 count/\h 8=.arr 1 23 0 (n2+1) (n2+1) ((n2+1)*23)/\h 9=.int .i64 i) (f3 hh c4 ((show vecC zao [(⟨(gx t i).prio,((gx t i).mat),(-1),[]⟩:Rule)]=(eo .i64 ((⟨(gx t i).prio,((gx t i).mat),(-1),[]⟩:Rule).prio) :: ((((⟨(gx t i).prio,((gx t i).mat),(-1),[]⟩:Rule).mat).mask).l.map (eo .i64)++((((⟨(gx t i).prio,((gx t i).mat),(-1),[]⟩:Rule).mat).bits).l.map (eo .i64)++[eo .i64 ((⟨(gx t i).prio,((gx t i).mat),(-1),[]⟩:Rule).step),zbs ((⟨(gx t i).prio,((gx t i).mat),(-1),[]⟩:Rule).outs)]))) from zh9.trans rfl))) trivial fun h hh=>?_;refine rk [1,2,8,9] [] (f2 hh c4) fun h hh=>?_;exact rd m hh ⟨(ej.wrap (i+1)),(l++[(⟨(gx t i).prio,((gx t i).mat),(-1),[]⟩:Rule)]),(n2+1),H1,kq hh,rfl⟩
  clear hh h;rintro h bs ⟨hh,rfl⟩;obtain ⟨g8,H⟩:=isg H;apply ek;refine TW.freeze 8 (b:=1) (e:=23) (off:=0) (len:=s_2.2) (cap:=s_2.2) (M:=(s_2.2*23)) (s_2.1.map zao) (kq hh) (by rfl) (by omega) (by omega) (by rw [ge];exact ze6 (e:=23) (fun x=>zbi x) g8) (fun t ht=>by obtain ⟨x,_,rfl⟩:=i6.1 ht;first|rfl|exact zhj _|exact zbv _|exact zfs _|exact zbi _ | (rw [fc];rfl)) (by rw [fc]<;>exact g8) (by omega) ?_;rw [ze2 _ _ _ (by simp only [lzA]<;>omega)];simp only [scA];refine gk [1,2,8] hh fun h hh=>?_;obtain ⟨ab,e9,H⟩:=zae H;refine rkp [1,2,11,12] [] [.tup [zah ab.1,zlb ab.2]] (f2 hh c4) ?_ ?_
  .exact ⟨f5 (je (zc8 ax hx k s_2.1 ab e9 ) (by first|rfl|simp only [c4])),trivial⟩
  clear hh h;intro h hh;obtain ⟨s_3,H1,H⟩:=zae H;repeat apply ek
  refine cu [2,63] 2 (fun h bs=>(h 2=.int .i64 count/\h 63=.bool s_3)/\bs=[.cells true 3 [zdt n.nodes,zdu n.links,zdv n.edges],.gone]) ?_ ?_
  .skip;rcases isp H1 with ⟨c10,H1⟩|⟨c10,H1⟩;rotate_left
   .skip;refine rk [2,63] [] (f3 hh (zAb c10) c4) fun h hh=>?_;cases H1;exact ce hh ⟨kq hh,rfl⟩
   refine rk [2,63] [] (f3 hh (zAa c10) c4) fun h hh=>?_;cases H1;exact ce hh ⟨kq hh,rfl⟩
  clear hh h;rintro h bs ⟨hh,rfl⟩;rcases isb H with ⟨c11,H⟩|⟨c11,H⟩;rotate_left
  .skip;refine cf (f2 hh c11) ?_;refine sk ?_;apply ek;refine rk [2,13] [] (f3 hh c4 c11) fun h hh=>?_;repeat apply ek
   refine rk [2,13,14] [] (f3 hh c4 c11) fun h hh=>?_;obtain ⟨s_4,H1,H⟩:=zae H;refine cu [13] 2 (fun h bs=>(h 13=.int .i64 s_4)/\bs=[.cells true 3 [zdt n.nodes,zdu n.links,zdv n.edges],.gone]) ?_ ?_
   .skip;apply gl;refine TW.loopT [2,13,14] (fun m h bs=>∃ (size:Int) (i2:Int),zbc k count m size i2=some s_4/\(h 2=.int .i64 count/\h 13=.int .i64 size/\h 14=.int .i64 i2)/\bs=[.cells true 3 [zdt n.nodes,zdu n.links,zdv n.edges],.gone]) ?_ k _ _ ?_;rotate_left
    .exact ⟨1,0,H1,kq hh,rfl⟩
    clear hh h H1;rintro m h bs ⟨size,i2,H1,hh,rfl⟩;rcases m with _|m
    .rw [zbc] at H1;cases H1
    rw [zbc] at H1;repeat apply ek
    refine rk [2,13,14,66] [] (f3 hh c4 c11) fun h hh=>?_;rcases isp H1 with ⟨c12,H1⟩|⟨c12,H1⟩;rotate_left
    .skip;refine cf (f2 hh (zAb c12)) ?_;refine xk ?_;cases H1;exact ce hh ⟨kq hh,rfl⟩
    refine ct (f2 hh (zAa c12)) ?_;refine sk ?_;apply ek;apply gl;refine rk [2,13,14] [] (f3 hh c4 c11) fun h hh=>?_;refine rk [2,13,14] [] (f3 hh c4 c11) fun h hh=>?_;exact rd m hh ⟨(ej.wrap (size*2)),(ej.wrap (i2+1)),H1,kq hh,rfl⟩
   clear hh h;rintro h bs ⟨hh,rfl⟩;apply ek;refine rk [13,15] [] (f3 hh c4 c11) fun h hh=>?_;refine vk 15 1 [13,15] hh fun h hh=>?_;repeat apply ek
   refine rk [13,15,16] [] (f3 hh c4 c11) fun h hh=>?_;obtain ⟨s_5,H1,H⟩:=zae H;refine cu [13,15] 3 (fun h bs=>(h 13=.int .i64 s_4/\h 15=.arr 2 1 0 s_5.2 s_5.2 s_5.2)/\bs=[.cells true 3 [zdt n.nodes,zdu n.links,zdv n.edges],.gone,.cells false s_5.2 (s_5.1.map ints)]) ?_ ?_
   .skip;apply gl;refine TW.loopT [13,15,16] (fun m h bs=>∃ (v_:Int) (l2:List (List Int)) (n3:Nat),zbb k s_4 m v_ l2 n3=some s_5/\(h 13=.int .i64 s_4/\h 15=.arr 2 1 0 n3 n3 n3/\h 16=.int .i64 v_)/\bs=[.cells true 3 [zdt n.nodes,zdu n.links,zdv n.edges],.gone,.cells false n3 (l2.map ints)]) ?_ k _ _ ?_;rotate_left
    .exact ⟨0,[],0,H1,kq hh,rfl⟩
    clear hh h H1;rintro m h bs ⟨v_,l2,n3,H1,hh,rfl⟩;rcases m with _|m
    .rw [zbb] at H1;cases H1
    rw [zbb] at H1;repeat apply ek
    refine rk [13,15,16,73] [] (f3 hh c4 c11) fun h hh=>?_;rcases isp H1 with ⟨c13,H1⟩|⟨c13,H1⟩;rotate_left
    .skip;refine cf (f2 hh (zAb c13)) ?_;refine xk ?_;cases H1;exact ce hh ⟨kq hh,rfl⟩
    refine ct (f2 hh (zAa c13)) ?_;refine sk ?_;apply ek;apply gl;obtain ⟨g14,H1⟩:=isg H1;refine rg [] [] [.cells true 3 [zdt n.nodes,zdu n.links,zdv n.edges],.gone,.cells false (n3+1) ((l2++[[ej.wrap ((ej.wrap (s_4 - 1))+256),ej.wrap (v_+256),1]]).map ints)] (fun h=>h 13=.int .i64 s_4/\h 15=.arr 2 1 0 (n3+1) (n3+1) (n3+1)/\h 16=.int .i64 v_) (f3 hh c4 (f3 c11 (el63 ax) (sr63 ax))) trivial fun h hh=>?_;refine rk [13,15,16] [] (f3 hh c4 c11) fun h hh=>?_;exact rd m hh ⟨(ej.wrap (v_+1)),(l2++[[ej.wrap ((ej.wrap (s_4 - 1))+256),ej.wrap (v_+256),1]]),(n3+1),H1,kq hh,rfl⟩
   clear hh h;rintro h bs ⟨hh,rfl⟩;obtain ⟨g15,H⟩:=isg H;apply ek;refine TW.freeze 15 (b:=2) (e:=1) (off:=0) (len:=s_5.2) (cap:=s_5.2) (M:=s_5.2) (s_5.1.map ints) (kq hh) (by rfl) (by omega) (by omega) (by rw [ge,Nat.mul_one,zi0 (fun _=>rfl),List.take_of_length_le (by rw [fc];omega)]) (fun t ht=>by obtain ⟨x,_,rfl⟩:=i6.1 ht;first|rfl|exact zhj _|exact zbv _|exact zfs _|exact zbi _ | (rw [fc];rfl)) (by rw [fc]<;>exact g15) (by omega) ?_;rw [ze2 _ _ _ (by simp only [lzA]<;>omega)];simp only [scA];refine gk [13,15] hh fun h hh=>?_;obtain ⟨ai,e16,H⟩:=zae H;obtain ⟨ak,e17,H⟩:=zae H;refine rkp [13,17,18] [] [zah ai,.tup [zah ak.1,zlb ak.2]] (f3 hh c4 c11) ?_ ?_
   .exact ⟨f5 (je (zfm ax hx k s_5.1 ai e16 ) (by first|rfl|simp only [c4,c11])),f5 (je (zc8 ax hx k ai ak e17 ) (by first|rfl|simp only [c4,c11])),trivial⟩
   clear hh h;intro h hh;rcases isp H with ⟨c18,H⟩|⟨c18,H⟩;rotate_left
   .skip;apply ek;refine rkp [6] [] [.bool true] (f3 hh (zAb c18) (f2 c4 c11)) ?_ ?_
    .exact ⟨f5 (je hx.san (by first|rfl|simp only [c4,c11])),trivial⟩
    clear hh h;intro h hh;cases H;exact rt hh
   rcases isp H with ⟨c19,H⟩|⟨c19,H⟩;rotate_left
   .skip;apply ek;refine rkp [6] [] [.bool true] (f3 hh (zAa c18) (f3 (zAb c19) c4 c11)) ?_ ?_
    .exact ⟨f5 (je hx.san (by first|rfl|simp only [c4,c11])),trivial⟩
    clear hh h;intro h hh;cases H;exact rt hh
   obtain ⟨g20,H⟩:=isg H;apply ek;refine rkp [6] [] [.bool true] (f3 hh (zAa c18) (f3 (zAa c19) c4 (f3 c11 (zak g20) (f3 (ba43 ax) (bc43 ax) ((aq56 ax ((gx ak.1 0).mat) (⟨(mkAr 10 [256]),(mkAr 10 [256])⟩:Pat)).1))))) ?_ ?_
   .exact ⟨f5 (je hx.san (by first|rfl|simp only [c4,c11])),trivial⟩
   clear hh h;intro h hh;cases H;exact rt hh
  refine ct (f2 hh c11) ?_;apply ek;refine rk [6] [] (f3 hh c4 c11) fun h hh=>?_;cases H;exact rt hh
 refine ct (f2 hh c4) ?_;apply ek;refine rkp [6] [] [.bool true] (f2 hh c4) ?_ ?_
 .exact ⟨f5 (je hx.san (by first|rfl|simp only [c4])),trivial⟩
 clear hh h;intro h hh;cases H;exact rt hh
def drp (r:Rule):Rule:=⟨r.prio,r.mat,-1,[]⟩
def AllD (t:List Rule):Prop:=∀ r,r∈t->r.step=-1/\r.outs=[]
theorem AllD.hd {t:List Rule} (h:AllD t) (x:Ar 10):hd t x=(-1,[]):=by
  unfold Go.Proofs.Ytkfnjbfnkpameaa.hd
  cases hf:t.find? (fun r=>zax r.mat x) with
  |none=>rfl
  |some r =>
    have:=h r (List.mem_of_find?_eq_some hf);simp only;rw [this.1,this.2]
theorem AllD.jn {t u:List Rule} {m:Merg} (h:AllD t) (hJ:Jn t m u):AllD u:=by
  intro r hr;rcases hJ with ⟨_,_,i,_,hi,rfl⟩|⟨i,j,both,b,_,_,hij,hj,_,_,hu⟩
  . exact h r (zhq hr)
  . have hm:r∈putM (putM t i both) j both:=by
      rcases hu with ⟨_,rfl⟩|⟨_,rfl⟩<;>exact zhq hr
    rcases zof hij hj hm with q|⟨s,hs,rfl⟩
    . exact h r q
    . exact h s hs
theorem AllD.chn {t u:List Rule} {l:List Merg} (hC:Chn t l u) (h:AllD t):AllD u:=by
  induction hC with
  |nil t=>exact h
  |cons a _ ih=>exact ih (h.jn a.1)
theorem AllD.stuck {t:List Rule} (h:AllD t) (hs:z9a t):t=[]:=by
  cases ht:t with
  |nil=>rfl
  |cons r l =>
    have h0:0<t.length:=by rw [ht];simp
    have hJ:Jn t ⟨1,((0:Nat):Int),0⟩ (delL t 0 (0+1)):=.inl ⟨rfl,rfl,0,rfl,h0,rfl⟩;exact absurd ⟨hJ,fun y _=>by rw [h.hd,(h.jn hJ).hd]⟩ (hs _ _)
theorem yig {n:Net} {t:List Rule} {F:List Nat} (R:RtT n t F):RtT n (t.map drp) F:=by
  have hlen:=R.len;refine ⟨⟨by rw [fc];omega,fun r hr=>?_,R.lit.few,fun r hr=>?_⟩,by rw [fc];exact hlen,⟨by rw [fc];exact R.ok.1,fun r hr=>?_⟩,fun r hr=>?_,?_⟩
  . obtain ⟨s,hs,rfl⟩:=i6.1 hr;exact R.lit.right s hs
  . obtain ⟨s,hs,rfl⟩:=i6.1 hr;exact R.lit.mask s hs
  . obtain ⟨s,hs,rfl⟩:=i6.1 hr;exact ⟨(show (0:Nat)<9223372036854775808 by decide),fun l hl=>by simp [drp] at hl⟩
  . obtain ⟨s,hs,rfl⟩:=i6.1 hr;have:=R.formed s hs;unfold formed at this ⊢;simp only [ep] at this;show (decide (1<=s.prio/\s.prio<=65535) && (zag s.mat && (decide ((-1:Int)<=-1/\(-1:Int)<1000/\([]:List (List Alt)).length<=16) && ([]:List (List Alt)).all (fOut n))))=true;rw [this.1,this.2.1];rfl
  . have e:(t.map drp).map (fun r=>r.prio)=t.map fun r=>r.prio:=by rw [List.map_map];rfl
    rw [e];exact R.dec
theorem yj8 {k:Nat} {t:List Rule} (hl:t.length<=1000):∀ c i,i<=t.length->t.length - i<c->zav k t c (i:Int) ((t.take i).map drp) ((t.take i).map drp).length=some (t.map drp,(t.map drp).length):=by
  intro c
  induction c with
  |zero=>intro i h1 h2;omega
  |succ c ih =>
    intro i h1 h2;rw [zav];by_cases ci:i<t.length
    . have ih:=ih (i+1) (by omega) (by omega);rw [oe,fb ci,n4,List.map_append,fi] at ih;have hL:((t.take i).map drp).length=i:=by rw [fc,gq];omega
      rw [zAc (zbg ci),zAc ⟨by omega,zbg ci⟩,zAc (by omega),zg3 ci,zcc i (by omega)];exact ih
    . obtain rfl:i=t.length:=by omega
      rw [zAd (by omega),me]
def ydo (k:Nat) (count:Int):Option Bool:=((zbc k count k 1 0:Option Int).bind fun s_4=>((zbb k s_4 k 0 [] 0:Option (List (List Int)×Nat)).bind fun s_5=>(if s_5.1.length=s_5.2 then ((zfo k s_5.1).bind fun ai=>((zb8 k ai).bind fun ak=>(if (ak.1.length:Int)=1 then (if (ak.2.length:Int)=(ej.wrap (s_4 - 1)) then (if (0:Int)<=0/\0<(ak.1.length:Int) then some (decide (((gx ak.1 0).mat)=(⟨(mkAr 10 [256]),(mkAr 10 [256])⟩:Pat))) else none) else some false) else some false))) else none)))
theorem vals0:ydo 9223372036854775808 0=some true:=by kernel_rfl
theorem vals1:ydo 9223372036854775808 1=some true:=by kernel_rfl
theorem vals2:ydo 9223372036854775808 2=some true:=by kernel_rfl
theorem ydn {count:Int} (h0:¬ count<0) (h2:¬ 2<count):ydo 9223372036854775808 count=some true:=by
  rcases (show count=0\/count=1\/count=2 by omega) with rfl|rfl|rfl
  . exact vals0
  . exact vals1
  . exact vals2
theorem ybh (n:Net) (t:List Rule) (count:Int) (hn:Held n) (ht:zoj t):∃ k,zct k n t count=some true:=by
  refine ⟨9223372036854775808,?_⟩;have hk:big<=9223372036854775808:=Nat.le_refl _;obtain ⟨b,e,hb⟩:=yji hk n hn t ht 10 (by decide);unfold zct;rw [e,em]
  cases b with
  |false=>rw [zAd (by simp),em,zAc rfl]
  |true =>
    rw [zAc rfl];by_cases c0:count<0
    . rw [zAc c0,em,zAc rfl]
    by_cases c2:2<count
    . rw [zAd c0,em,zAc (zAa c2)]
    obtain ⟨F,R⟩:=rt_of (by decide) ht (hb rfl);have hlen:=R.len;have e1:=yj8 (k:=9223372036854775808) (t:=t) (by omega) 9223372036854775808 0 (Nat.zero_le _) (by omega);rw [show ((0:Nat):Int)=0 from rfl] at e1;change zav 9223372036854775808 t 9223372036854775808 0 [] 0=_ at e1;obtain ⟨u,l,e2,hC,hS⟩:=z2v (yig R) hk
    have hD:AllD (t.map drp):=fun r hr=>by
      obtain ⟨s,hs,rfl⟩:=i6.1 hr;exact ⟨rfl,rfl⟩
    have hu:=(hD.chn hC).stuck hS;have hl:=(hC.keep (yig R)).2.1;subst hu;rw [fc,iu,ig] at hl;rw [zAd c0,em,zAd (by rw [decide_eq_true_eq];exact c2),e1,em,zAc rfl,e2,em];rw [zAd (by simp),em,zAd (by simp only [decide_eq_true_eq,ne_eq];omega)];exact ydn c0 c2
theorem heldW {n:Net} (h:yi4 n):Held n:=⟨fun x hx=>(h.1.2 x hx).1,fun x hx=>(h.2.2.2 x hx).1⟩
theorem yju {r:Rule} (h:z3y r):zm5 r:=⟨h.2.2.2.1,fun l hl=>(h.2.2.2.2 l hl).1⟩
theorem yly {t:List Rule} (h:t.length<big/\∀ y,y∈t->z3y y):zoj t:=⟨h.1,fun r hr=>yju (h.2 r hr)⟩
theorem law5w (n:Net) (t:List Rule) (c:Int) (wn:yi4 n) (wt:t.length<big/\∀ y,y∈t->z3y y) (_:inI c):∃ k,zct k n t c=some true :=
  ybh n t c (heldW wn) (yly wt)
end Go.Proofs.Ytkfnjbfnkpameaa
