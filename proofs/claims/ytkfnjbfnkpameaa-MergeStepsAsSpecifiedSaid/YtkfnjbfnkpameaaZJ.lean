/- Part 10 of the proof of MergeStepsAsSpecified (several texts in one; no further condition). -/
import Derived.Test.YtkfnjbfnkpameaaZI
import Derived.Test.YtkfnjbfnkpameaaZH
import Derived.Test.YtkfnjbfnkpameaaZG
set_option linter.unusedSimpArgs false
set_option linter.unusedVariables false
set_option linter.unusedSectionVars false
namespace Go.Proofs.Ytkfnjbfnkpameaa
set_option maxHeartbeats 8000000
open _root_.And renaming intro->fd
open _root_.Bool renaming and_eq_true->fj,and_self->gc,eq_iff_iff->ku,not_false->il,not_true->iv
open _root_.Classical renaming byContradiction->js
open _root_.Int renaming eq_ofNat_of_zero_le->jt,toNat_natCast->jk
open Go.IntKind renaming i64->fi
open _root_.List renaming append_assoc->gj,append_nil->gt,cons_append->gq,drop_eq_getElem_cons->ko,drop_of_length_le->iw,drop_succ_cons->kv,drop_zero->gp,eq_nil_of_length_eq_zero->ji,flatMap_cons->jb,flatten_cons->ii,flatten_nil->iy,getD_eq_getElem?_getD->fo,getElem?_append_right->im,getElem?_cons_succ->lh,getElem?_cons_zero->gz,getElem?_eq_getElem->fk,getElem_map->pf,getElem_mem->ju,length_append->fx,length_cons->gh,length_filter_le->nj,length_map->fq,length_nil->je,length_range->qv,length_replicate->lf,length_singleton->ip,length_take->ik,mem_append->io,mem_map->jo,mem_of_mem_take->nv,mem_singleton->gu,nil_append->gg,range->kg,replicate->gb,replicate_succ->jc,set_cons_succ->lw,set_cons_zero->ld,take_add_one->mb,take_append_drop->i9,take_append_of_le_length->jx,take_length->l9,take_of_length_le->ij
open _root_.Nat renaming beq_refl->ja,le_refl->fp,le_trans->jv,lt_of_lt_of_le->gr,not_lt_zero->nl,reduceAdd->fw,reduceEqDiff->ft,reduceLT->iq,reduceLeDiff->jz,reduceMul->jg,reduceSub->iz,sub_self->pz,zero_add->i5,zero_le->ir,zero_testBit->oi
open _root_.Option renaming bind_some->ff,toList_some->l6
open Go.Proofs.Ytkfnjbfnkpameaa.Pure renaming clr->i7
open Go.Proofs.Ytkfnjbfnkpameaa.T renaming int->fh,ren->qo,renL->oq
open Go.Proofs.Ytkfnjbfnkpameaa.TW renaming block->gl,loopT->jj,seq->fg
open Go.Proofs.Ytkfnjbfnkpameaa.zal renaming call->gd
set_option maxRecDepth 100000
open Go Go.RowKit
theorem zq4 {α:Type} (f:α->Bool):∀ l:List α,(l.filter f).length+(l.filter fun x=>!f x).length=l.length
  |[]=>rfl
  |x :: l=>by
    have:=zq4 f l;cases h:f x<;>simp [h]<;>omega
theorem z20 {α:Type} (b:α->Nat->Bool):∀ (F:List Nat) (L:List α),L.Pairwise (fun r s=>∃ j,j∈F/\b r j≠b s j)->L.length<=2 ^ F.length
  |[],[],_=>by simp
  |[],[x],_=>by simp
  |[],x :: y :: l,h=>by
    obtain ⟨j,hj,_⟩:=(List.pairwise_cons.1 h).1 y (.head _)
    cases hj
  |f :: F,L,h=>by
    have key:∀ g:α->Bool,(∀ x y,g x=true->g y=true->b x f=b y f)->(L.filter g).length<=2 ^ F.length:=fun g hg=>by
      refine z20 b F _ ?_;rw [List.pairwise_filter];refine h.imp ?_;intro x y hxy gx gy;obtain ⟨j,hj,hd⟩:=hxy;rcases List.mem_cons.1 hj with e|e
      . subst e;exact absurd (hg x y gx gy) hd
      . exact ⟨j,e,hd⟩
    have h1:=key (fun x=>b x f) (fun x y hx hy=>by rw [hx,hy])
    have h2:=key (fun x=>!b x f) (fun x y hx hy=>by
      have hx':b x f=false:=by simpa using hx
      have hy':b y f=false:=by simpa using hy
      rw [hx',hy'])
    have:=zq4 (fun x=>b x f) L;rw [gh,Nat.pow_succ];omega
structure zv3 (F:List Nat) (L:List Pat):Prop where
  right:∀ r,r∈L->zaf r=true
  mask:∀ r,r∈L->∀ j,j<160->hbit r.mask j=true->j∈F
  apart:L.Pairwise fun r s=>∀ h,¬ (zap r h=true/\zap s h=true)
theorem zv3.few {F:List Nat} {L:List Pat} (h:zv3 F L) (hF:F.length<=12):L.length<=4096:=by
  refine jv (z20 (fun r j=>hbit r.bits j) F L ?_) (Nat.pow_le_pow_right (n:=2) (by decide) hF);refine h.apart.imp_of_mem ?_;intro r s hr hs hd;refine js fun hn=>hd r.bits ⟨zas.2 fun i _ _=>rfl,zas.2 fun i hi hm=>?_⟩;refine js fun hne=>hn ⟨i,h.mask s hs i hi hm,fun e=>hne e.symm⟩
def zmk (L:List Pat) (h:Ar 10):Prop:=∃ r,r∈L/\zap r h=true
theorem zrx {a b:List Pat} {h:Ar 10}:zmk (a++b) h↔zmk a h\/zmk b h:=by
  unfold zmk;constructor
  . rintro ⟨r,hr,hm⟩;rcases io.1 hr with q|q
    . exact .inl ⟨r,q,hm⟩
    . exact .inr ⟨r,q,hm⟩
  . rintro (⟨r,hr,hm⟩|⟨r,hr,hm⟩)
    . exact ⟨r,io.2 (.inl hr),hm⟩
    . exact ⟨r,io.2 (.inr hr),hm⟩
theorem zze {k:Nat} {F:List Nat} (hF:F.length<=12) {L:List Pat} {q:Pat} (hL:zv3 F L) (hq:zaf q=true) (hqF:∀ j,j<160->hbit q.mask j=true->j∈F) (hk:big<=k) :
    ∃ L',zgr k L q=some L'/\zv3 F L'/\∀ h,zmk L' h↔zmk L h/\zap q h=false:=by
  have hk160:160<k:=gr (by decide) hk;have hfew:=hL.few hF
  have key:∀ m i l2,i<=L.length->L.length - i<m->zv3 F l2->(∀ h,zmk l2 h↔zmk (L.take i) h/\zap q h=false)->∃ L',zbx k L q m (i:Int) l2 l2.length=some (L',L'.length)/\zv3 F L'/\∀ h,zmk L' h↔zmk L h/\zap q h=false:=by
    intro m
    induction m with
    |zero=>intro i l2 h1 h2;omega
    |succ m ih =>
      intro i l2 h1 h2 hA hH;rw [zbx];by_cases c:i<L.length
      . have hmem:=ju c;obtain ⟨D,e,hD⟩:=ycd (k:=k) (hL.right _ hmem) hq hk160;rw [zAc (zaq c),zAc ⟨by omega,zaq c⟩,zd8 c,e,ff,za4 i (by omega)];have hsplit:L=L.take i++L[i] :: L.drop (i+1):=by rw [<- ko c,i9]
        have hcross:∀ r,r∈L.take i->∀ h,¬ (zap r h=true/\zap L[i] h=true):=by
          have:=hL.apart;rw [hsplit] at this;intro r hr;exact (List.pairwise_append.1 this).2.2 r hr _ (.head _)
        have hA2:zv3 F (l2++D):=by
          refine ⟨fun r hr=>?_,fun r hr j hj hm=>?_,List.pairwise_append.2 ⟨hA.apart,hD.apart,fun r hr s hs h=>?_⟩⟩
          . rcases io.1 hr with x|x
            . exact hA.right r x
            . exact hD.right r x
          . rcases io.1 hr with x|x
            . exact hA.mask r x j hj hm
            . rcases hD.mask r x j hj hm with y|y
              . exact hL.mask _ hmem j hj y
              . exact hqF j hj y
          . rintro ⟨x,y⟩;obtain ⟨⟨r',z1,z2⟩,_⟩:=(hH h).1 ⟨r,hr,x⟩;have:=((hD.heads h).1 ⟨s,hs,y⟩).1;exact hcross r' z1 h ⟨z2,this⟩
        have hH2:∀ h,zmk (l2++D) h↔zmk (L.take (i+1)) h/\zap q h=false:=fun h=>by
          rw [zrx,mb,fk c,l6,zrx,hH h];have e1:zmk D h↔zap L[i] h=true/\zap q h=false:=hD.heads h;have e2:zmk [L[i]] h↔zap L[i] h=true:=⟨fun ⟨r,hr,hm⟩=>by cases gu.1 hr;exact hm,fun hm=>⟨_,gu.2 rfl,hm⟩⟩;rw [e1,e2];constructor
          . rintro (⟨a,b⟩|⟨a,b⟩)
            . exact ⟨.inl a,b⟩
            . exact ⟨.inr a,b⟩
          . rintro ⟨a|a,b⟩
            . exact .inl ⟨a,b⟩
            . exact .inr ⟨a,b⟩
        have hfew2:=hA2.few hF;rw [fx] at hfew2;rw [zAc (by omega)];have:=ih (i+1) (l2++D) (by omega) (by omega) hA2 hH2;by_cases cz:D.length=0
        . rw [zAc cz];have ez:=ji cz;rw [ez,gt] at this;exact this
        . rw [zAd cz];rw [fx] at this;exact this
      . obtain rfl:i=L.length:=by omega
        rw [zAd (by omega)];rw [l9] at hH;exact ⟨l2,rfl,hA,hH⟩
  obtain ⟨L',e,h1,h2⟩:=key k 0 [] (ir _) (by simp only [big] at hk;omega) ⟨fun r hr=>by simp at hr,fun r hr=>by simp at hr,List.Pairwise.nil⟩ (fun h=>⟨fun ⟨r,hr,_⟩=>by simp at hr,fun ⟨⟨r,hr,_⟩,_⟩=>by simp at hr⟩);refine ⟨L',?_,h1,h2⟩;unfold zgr;rw [show ((0:Nat):Int)=0 from rfl,show (([]:List Pat).length)=0 from rfl] at e;rw [e,ff,zAc rfl]
theorem ylw {k:Nat} {F:List Nat} (hF:F.length<=12) {p:Pat} {l:List Pat} (hp:zaf p=true) (hpF:∀ j,j<160->hbit p.mask j=true->j∈F) (hl:∀ q,q∈l->zaf q=true) (hlF:∀ q,q∈l->∀ j,j<160->hbit q.mask j=true->j∈F) (hlen:l.length<=1000) (hk:big<=k) :
    ∃ L,zc0 k l k [p] 0=some L/\zv3 F L/\∀ h,zmk L h↔zap p h=true/\∀ q,q∈l->zap q h=false:=by
  have key:∀ m i L,i<=l.length->l.length - i<m->zv3 F L->(∀ h,zmk L h↔zap p h=true/\∀ q,q∈l.take i->zap q h=false)->∃ L',zc0 k l m L (i:Int)=some L'/\zv3 F L'/\∀ h,zmk L' h↔zap p h=true/\∀ q,q∈l->zap q h=false:=by
    intro m
    induction m with
    |zero=>intro i L h1 h2;omega
    |succ m ih =>
      intro i L h1 h2 hA hH;rw [zc0];by_cases c:i<l.length
      . have hmem:=ju c;obtain ⟨L',e,hA',hH'⟩:=zze hF hA (hl _ hmem) (hlF _ hmem) hk;rw [zAc (zaq c),zAc ⟨by omega,zaq c⟩,zd8 c,e,ff,za4 i (by omega)];refine ih (i+1) L' (by omega) (by omega) hA' fun h=>?_;rw [hH',hH,mb,fk c,l6];constructor
        . rintro ⟨⟨a,b⟩,d⟩;refine ⟨a,fun q hq=>?_⟩;rcases io.1 hq with x|x
          . exact b q x
          . cases gu.1 x;exact d
        . rintro ⟨a,b⟩;exact ⟨⟨a,fun q hq=>b q (io.2 (.inl hq))⟩,b _ (io.2 (.inr (gu.2 rfl)))⟩
      . obtain rfl:i=l.length:=by omega
        rw [zAd (by omega)];rw [l9] at hH;exact ⟨L,rfl,hA,hH⟩
  refine key k 0 [p] (ir _) (by simp only [big] at hk;omega) ⟨fun r hr=>by cases gu.1 hr;exact hp,fun r hr=>by cases gu.1 hr;exact hpF,List.pairwise_singleton _ _⟩ fun h=>?_;constructor
  . rintro ⟨r,hr,hm⟩;cases gu.1 hr;exact ⟨hm,fun q hq=>by simp at hq⟩
  . rintro ⟨hm,_⟩;exact ⟨p,gu.2 rfl,hm⟩
theorem ylm {k:Nat} {L:List Pat} (hL:∀ r,r∈L->zaf r=true) (h0:0<L.length) (hlen:L.length<=4096) (hk:big<=k):∃ x,zb6 k L k 1 ((gx L 0).bits)=some x/\(∃ r,r∈L/\r.bits=x)/\∀ r,r∈L->¬ ltH r.bits x:=by
  have key:∀ m i (x:Ar 10),i<=L.length->L.length - i<m->(∃ r,r∈L/\r.bits=x)->(∀ r,r∈L.take i->¬ ltH r.bits x)->∃ y,zb6 k L m (i:Int) x=some y/\(∃ r,r∈L/\r.bits=y)/\∀ r,r∈L->¬ ltH r.bits y:=by
    intro m
    induction m with
    |zero=>intro i x h1 h2;omega
    |succ m ih =>
      intro i x h1 h2 hx hm;rw [zb6];by_cases c:i<L.length
      . have hmem:=ju c;obtain ⟨r0,hr0,e0⟩:=hx;have rx:zac x=true:=by rw [<- e0];exact (zah.1 (hL _ hr0)).2.1
        have ri:=(zah.1 (hL _ hmem)).2.1;obtain ⟨cc,e,hc⟩:=zmc (k:=k) ri rx (by simp only [big] at hk;omega);rw [zAc (zaq c),zAc ⟨by omega,zaq c⟩,zd8 c,e,ff,za4 i (by omega)];by_cases c2:cc<0
        . rw [zAc c2];have hlt:=hc.neg.1 c2;refine ih (i+1) _ (by omega) (by omega) ⟨_,hmem,rfl⟩ fun r hr=>?_;rw [mb,fk c,l6] at hr;rcases io.1 hr with z|z
          . exact fun q=>hm r z (zpw q hlt)
          . cases gu.1 z;exact zn3
        . rw [zAd c2];refine ih (i+1) x (by omega) (by omega) ⟨r0,hr0,e0⟩ fun r hr=>?_;rw [mb,fk c,l6] at hr;rcases io.1 hr with z|z
          . exact hm r z
          . cases gu.1 z;exact fun q=>c2 (hc.neg.2 q)
      . obtain rfl:i=L.length:=by omega
        rw [zAd (by omega)];rw [l9] at hm;exact ⟨x,rfl,hx,hm⟩
  have hg:gx L 0=L[0]:=zd8 (i:=0) h0
  have:=key k 1 ((gx L 0).bits) (by omega) (by simp only [big] at hk;omega) ⟨_,ju h0,by rw [hg]⟩ fun r hr=>by
    rw [mb,List.take_zero,gg,fk h0,l6] at hr;cases gu.1 hr;rw [hg];exact zn3
  exact this
theorem z4e {k:Nat} {F:List Nat} (hF:F.length<=12) {p:Pat} {l:List Pat} (hp:zaf p=true) (hpF:∀ j,j<160->hbit p.mask j=true->j∈F) (hl:∀ q,q∈l->zaf q=true) (hlF:∀ q,q∈l->∀ j,j<160->hbit q.mask j=true->j∈F) (hlen:l.length<=1000) (hk:big<=k) :
    ∃ r,zen k p l=some r/\Res p l r:=by
  obtain ⟨L,e,hA,hH⟩:=ylw hF hp hpF hl hlF hlen hk;have hfew:=hA.few hF;unfold zen;rw [e,ff];have hout:∀ h,Out p l h->zmk L h:=fun h ho=>(hH h).2 ⟨ho.into,ho.no⟩;by_cases c:(L.length:Int)=0
  . rw [zAc c];have ez:=ji (by omega:L.length=0);refine ⟨_,rfl,.inr ⟨rfl,fun h ho=>?_⟩⟩;obtain ⟨r,hr,_⟩:=hout h ho;rw [ez] at hr;cases hr
  . rw [zAd c,zAc ⟨by omega,by omega⟩];obtain ⟨x,e2,⟨r,hr,hrx⟩,hm⟩:=ylm (k:=k) hA.right (by omega) hfew hk;rw [e2,ff];refine ⟨_,rfl,.inl ⟨rfl,⟨?_,fun h' ho=>?_⟩⟩⟩
    . have hx:=(hH x).1 ⟨r,hr,by rw [<- hrx];exact zas.2 fun i _ _=>rfl⟩;exact ⟨by rw [<- hrx];exact (zah.1 (hA.right r hr)).2.1,hx.1,hx.2⟩
    . obtain ⟨s,hs,hsm⟩:=hout h' ho;have hsr:=hA.right s hs;have hls:=(zxh (l:=[]) hsr (fun q hq=>by cases hq)).least h' ⟨ho.right,hsm,fun q hq=>by cases hq⟩;have hms:=hm s hs;have rx:zac x=true:=by rw [<- hrx];exact (zah.1 (hA.right r hr)).2.1
      rcases zsm (zah.1 hsr).2.1 rx with q|q|q
      . rw [<- q];exact hls
      . exact absurd q hms
      . exact fun z=>hls (zpw z q)
def bef (t:List Rule) (i:Nat):List Pat:=(t.take i).map fun r=>r.mat
theorem zjz {t:List Rule} {i:Nat} (hi:i<=t.length):(bef t i).length=i:=by unfold bef;rw [fq,ik];omega
theorem zsw {t:List Rule} {i:Nat} (hi:i<t.length):bef t (i+1)=bef t i++[t[i].mat]:=by
  unfold bef;rw [mb,fk hi,l6,List.map_append];rfl
theorem z0n {k:Nat} (t:List Rule) (n:Nat) (hn:n<=t.length) (ht:t.length<=5000) (hk:big<=k):zdg k t (n:Int)=some (bef t n):=by
  have key:∀ m j,j<=n->n - j<m->zbc k t (n:Int) m (j:Int) (bef t j++gb (n - j) (⟨zA 10,zA 10⟩:Pat))=some (bef t n):=by
    intro m
    induction m with
    |zero=>intro j h1 h2;omega
    |succ m ih =>
      intro j h1 h2;rw [zbc];have hl:=zjz (t:=t) (i:=j) (by omega);by_cases c:j<n
      . have ct:j<t.length:=by omega
        rw [zAc (by omega),zAc ⟨by omega,by omega⟩,zAc ⟨by omega,by omega⟩,zAc (by rw [fx,lf,hl];omega),zd8 ct,za4 j (by omega)];have:=ih (j+1) (by omega) (by omega);rw [zsw ct] at this;rw [show ((j:Int)).toNat=j by omega,List.set_append_right _ _ (by omega),hl,pz,show n - j=(n - (j+1))+1 by omega,jc,ld];rw [gj] at this;exact this
      . obtain rfl:j=n:=by omega
        rw [zAd (by omega),pz,List.replicate_zero,gt]
  have:=key k 0 (ir _) (by simp only [big] at hk;omega);unfold zdg;rw [zAc ⟨by omega,by omega⟩];rw [show ((0:Nat):Int)=0 from rfl,show bef t 0=[] from rfl,gg,Nat.sub_zero] at this;rw [show ((n:Int)).toNat=n by omega,this,ff,zAc (zjz hn)]
theorem zwz {k:Nat} (t:List Rule) (n:Nat) (hn:n<=t.length) (ht:t.length<=5000) (hk:big<=k):zgz k t (n:Int)=some (bef t n):=by
  have key:∀ m j,j<=n->n - j<m->zd4 k t (n:Int) m (j:Int) (bef t j) (bef t j).length=some (bef t n,(bef t n).length):=by
    intro m
    induction m with
    |zero=>intro j h1 h2;omega
    |succ m ih =>
      intro j h1 h2;rw [zd4];by_cases c:j<n
      . have ct:j<t.length:=by omega
        have hl:=zjz (t:=t) (i:=j) (by omega);rw [zAc (by omega),zAc ⟨by omega,by omega⟩,zAc (by omega),zd8 ct,za4 j (by omega)];have:=ih (j+1) (by omega) (by omega);rw [zsw ct,fx,ip] at this;exact this
      . obtain rfl:j=n:=by omega
        rw [zAd (by omega)]
  have:=key k 0 (ir _) (by simp only [big] at hk;omega);unfold zgz;rw [show ((0:Nat):Int)=0 from rfl,show bef t 0=[] from rfl,show (([]:List Pat).length)=0 from rfl] at this;rw [this,ff,zAc rfl]
structure Lit (t:List Rule) (F:List Nat):Prop where
  len:t.length<=1000
  right:∀ r,r∈t->zaf r.mat=true
  few:F.length<=12
  mask:∀ r,r∈t->∀ j,j<160->hbit r.mat.mask j=true->j∈F
theorem z4o {t:List Rule} {i:Nat} {q:Pat} (h:q∈bef t i):∃ r,r∈t/\r.mat=q:=by
  unfold bef at h;obtain ⟨r,hr,rfl⟩:=jo.1 h;exact ⟨r,nv hr,rfl⟩
theorem z1c {k:Nat} (l:List Pat) (hl:l.length<=1000) (hk:big<=k):zhm k l=some (l.all zaf):=by
  unfold zhm
  rw [zpx (L:=zcd k l) l false zaf (by simp only [big];omega) (fun m j h=>by
    rw [zcd,zAc (zaq h),zAc ⟨by omega,zaq h⟩,zd8 h,ztv _ (by simp only [big] at hk;omega),ff]) (fun m=>by rw [zcd,zAd (by omega)]) (by simp only [big] at hk;omega),ff]
  cases l.all zaf<;>rfl
def zq2 (x:Ar 10) (i:Nat):Nat:=((kg i).filter fun j=>!hbit x j).length
theorem z9z (x:Ar 10) (i:Nat):zq2 x (i+1)+(hbit x i).toNat=zq2 x i+1:=by
  unfold zq2;rw [List.range_succ,List.filter_append,fx];cases h:hbit x i<;>simp [List.filter,h]
theorem yg6 (x:Ar 10) (i:Nat):zq2 x i<=i:=by
  unfold zq2;exact jv (nj _ _) (by rw [qv];exact fp _)
theorem yf6 {k:Nat} {p:Pat} (hp:zac p.mask=true) (hk:160<k):zmu k p=some ((zq2 p.mask 160:Nat):Int):=by
  have key:∀ m i,i<=160->160 - i<m->zep k p m ((zq2 p.mask i:Nat):Int) (i:Int)=some ((zq2 p.mask 160:Nat):Int):=by
    intro m
    induction m with
    |zero=>intro i h1 h2;omega
    |succ m ih =>
      intro i h1 h2;rw [zep];by_cases c:i<160
      . have h3:=z9z p.mask i;have h4:=yg6 p.mask i;rw [zAc (ydb c),zgh hp c (by omega),ff,za4 i (by omega),za4 _ (by omega)]
        have e:fi.wrap (((zq2 p.mask i+1:Nat):Int) - ((hbit p.mask i).toNat:Int))=((zq2 p.mask (i+1):Nat):Int):=by
          have:(hbit p.mask i).toNat<=1:=by cases hbit p.mask i<;>decide
          rw [wr64 (by omega)];omega
        rw [e];exact ih (i+1) (by omega) (by omega)
      . obtain rfl:i=160:=by omega
        rw [zAd (by decide)]
  have:=key k 0 (by omega) (by omega);unfold zmu;change zep k p k 0 0=_ at this;rw [this];rfl
theorem yfn:zac (zA 10)=true:=by decide
theorem ym2 (j:Nat):hbit (zA 10) j=false:=by
  have e:∀ i:Nat,hw (zA 10) i=0:=fun i=>by
    show ((gb 10 (0:Int)).getD i default).toNat=0;rw [fo,List.getElem?_replicate];by_cases h:i<10
    . rw [zAc h];rfl
    . rw [zAd h];rfl
  unfold hbit;rw [e,oi]
theorem yce {k:Nat} {l:List Pat} (hl:∀ q,q∈l->zaf q=true) (hlen:l.length<=1000) (hk:big<=k):∃ F:List Nat,zla k l=some ((F.length:Nat):Int)/\∀ q,q∈l->∀ j,j<160->hbit q.mask j=true->j∈F:=by
  have hk160:160<k:=gr (by decide) hk
  have key:∀ m i x,i<=l.length->l.length - i<m->zac x=true->(∀ j,j<160->hbit x j=(l.take i).any fun q=>hbit q.mask j)->∃ y,ze3 k l m (i:Int) x=some y/\zac y=true/\∀ j,j<160->hbit y j=l.any fun q=>hbit q.mask j:=by
    intro m
    induction m with
    |zero=>intro i x h1 h2;omega
    |succ m ih =>
      intro i x h1 h2 hx hb;rw [ze3];by_cases c:i<l.length
      . have hq:=(zah.1 (hl _ (ju c))).1;have hmod:zaf ⟨l[i].mask,l[i].mask⟩=true:=zah.2 ⟨hq,hq,fun j _ h=>h⟩;obtain ⟨y,e,hA⟩:=ycf (k:=k) hmod hx hk160;rw [zAc (zaq c),zAc ⟨by omega,zaq c⟩,zd8 c,e,ff,za4 i (by omega)];refine ih (i+1) y (by omega) (by omega) hA.1 fun j hj=>?_;rw [hA.2 j hj,mb,fk c,l6,List.any_append,hb j hj];show (if hbit l[i].mask j=true then hbit l[i].mask j else _)=_
        cases hm:hbit l[i].mask j with
        |true=>simp [hm]
        |false=>simp [hm]
      . obtain rfl:i=l.length:=by omega
        rw [zAd (by omega)];rw [l9] at hb;exact ⟨x,rfl,hx,hb⟩
  obtain ⟨y,e,hy,hb⟩:=key k 0 (zA 10) (ir _) (by simp only [big] at hk;omega) yfn (fun j hj=>by rw [ym2];rfl);refine ⟨(kg 160).filter (hbit y),?_,fun q hq j hj hm=>List.mem_filter.2 ⟨List.mem_range.2 hj,by rw [hb j hj,List.any_eq_true];exact ⟨q,hq,hm⟩⟩⟩;unfold zla;rw [show ((0:Nat):Int)=0 from rfl] at e;rw [e,ff,yf6 (p:=⟨y,zA 10⟩) hy hk160,ff];have h1:=zq4 (hbit y) (kg 160);rw [qv] at h1;have h2:zq2 y 160=((kg 160).filter fun x=>!hbit y x).length:=rfl;rw [show zq2 (⟨y,zA 10⟩:Pat).mask 160=zq2 y 160 from rfl,wr64 (by omega)];congr 1;omega
theorem yli {k:Nat} {l:List Pat} (hlen:l.length<=1000) (hk:big<=k):∃ b,zpg k l 12=some b/\(b=true->(∀ q,q∈l->zaf q=true)/\∃ F:List Nat,F.length<=12/\∀ q,q∈l->∀ j,j<160->hbit q.mask j=true->j∈F):=by
  unfold zpg;rw [z1c l hlen hk,ff]
  cases hr:l.all zaf with
  |false=>exact ⟨_,by rw [zAd (by simp)],fun h=>by cases h⟩
  |true =>
    have hl:=fun q hq=>(List.all_eq_true.1 hr) q hq;rw [zAc rfl];by_cases c:(l.length:Int)<=12
    . rw [zAc c];obtain ⟨F,e,hF⟩:=yce hl hlen hk;rw [e,ff];refine ⟨_,rfl,fun h=>⟨hl,F,?_,hF⟩⟩;have:=zAe h;omega
    . rw [zAd c];exact ⟨_,rfl,fun h=>by cases h⟩
theorem ycb {k:Nat} {t:List Rule} (ht:t.length<=1000) (hk:big<=k):∃ b,zk5 k t=some b/\(b=true->∃ F,Lit t F):=by
  unfold zk5;have hbl:=zjz (t:=t) (i:=t.length) (fp _);obtain ⟨b,e,h⟩:=yli (k:=k) (l:=bef t t.length) (by omega) hk;rw [zwz t t.length (fp _) (by omega) hk,ff,e,ff];refine ⟨b,rfl,fun hb=>?_⟩;obtain ⟨h1,F,h2,h3⟩:=h hb;have hm:∀ r,r∈t->r.mat∈bef t t.length:=fun r hr=>by unfold bef;rw [l9];exact jo.2 ⟨r,hr,rfl⟩
  exact ⟨F,ht,fun r hr=>h1 _ (hm r hr),h2,fun r hr=>h3 _ (hm r hr)⟩
def Tri (D:Nat->Prop) (N n:Nat):Prop:=n<=N/\((n=0/\∀ i,i<N->¬ D i)\/(n=1/\∃ i,i<N/\D i/\∀ j,j<N->D j->j=i)\/(2<=n/\∃ i j,i<N/\j<N/\i≠j/\D i/\D j))
theorem Tri.zero {D:Nat->Prop}:Tri D 0 0:=⟨fp _,.inl ⟨rfl,fun i h=>absurd h (nl _)⟩⟩
theorem Tri.step {D:Nat->Prop} {N n c w:Nat} (h:Tri D N n) (hw:c<=w)
    (hc:(c=0/\∀ i,N<=i->i<N+w->¬ D i)\/(c=1/\∃ i,N<=i/\i<N+w/\D i/\∀ j,N<=j->j<N+w->D j->j=i)\/(2<=c/\∃ i j,i<N+w/\j<N+w/\i≠j/\D i/\D j)):Tri D (N+w) (n+c):=by
  obtain ⟨h0,h⟩:=h;refine ⟨by omega,?_⟩;rcases hc with ⟨rfl,c1⟩|⟨rfl,i,c1,c2,c3,c4⟩|⟨c0,i,j,c1⟩
  . rcases h with ⟨rfl,h1⟩|⟨rfl,i,h1,h2,h3⟩|⟨h1,i,j,h2,h3,h4⟩
    . exact .inl ⟨rfl,fun i hi=>by
        by_cases e:i<N
        . exact h1 i e
        . exact c1 i (by omega) hi⟩
    . exact .inr (.inl ⟨rfl,i,by omega,h2,fun j hj hd=>by
        by_cases e:j<N
        . exact h3 j e hd
        . exact absurd hd (c1 j (by omega) hj)⟩)
    . exact .inr (.inr ⟨by omega,i,j,by omega,by omega,h4⟩)
  . rcases h with ⟨rfl,h1⟩|⟨rfl,i',h1,h2,h3⟩|⟨h1,i',j',h2,h3,h4⟩
    . exact .inr (.inl ⟨rfl,i,c2,c3,fun j hj hd=>by
        by_cases e:j<N
        . exact absurd hd (h1 j e)
        . exact c4 j (by omega) hj hd⟩)
    . exact .inr (.inr ⟨by omega,i',i,by omega,c2,by omega,h2,c3⟩)
    . exact .inr (.inr ⟨by omega,i',j',by omega,by omega,h4⟩)
  . exact .inr (.inr ⟨by omega,i,j,c1⟩)
def Dp (p q:Pat) (i:Nat):Prop:=hbit p.bits i≠hbit q.bits i
def dW (p q:Pat) (w:Nat):Nat:=hw p.bits w ^^^ hw q.bits w
theorem zyi {p q:Pat} {i:Nat}:Dp p q i↔(dW p q (i / 16)).testBit (15 - i % 16)=true:=by
  unfold Dp dW hbit;rw [Nat.testBit_xor];cases (hw p.bits (i / 16)).testBit (15 - i % 16)<;>cases (hw q.bits (i / 16)).testBit (15 - i % 16)<;>simp
theorem yfo {p q:Pat} (w:Nat):(cntB 16 (dW p q w)=0/\∀ i,16*w<=i->i<16*w+16->¬ Dp p q i)\/(cntB 16 (dW p q w)=1/\∃ i,16*w<=i/\i<16*w+16/\Dp p q i/\∀ j,16*w<=j->j<16*w+16->Dp p q j->j=i)\/(2<=cntB 16 (dW p q w)/\∃ i j,i<16*w+16/\j<16*w+16/\i≠j/\Dp p q i/\Dp p q j):=by
  have hpos:∀ t,t<16->(16*w+(15 - t)) / 16=w/\15 - (16*w+(15 - t)) % 16=t:=fun t ht=>by omega
  rcases (z22 (dW p q w)).2 with ⟨h1,h2⟩|⟨h1,t,h2,h3,h4⟩|⟨h1,s,t,h2,h3,h4,h5,h6⟩
  . refine .inl ⟨h1,fun i a b hd=>?_⟩;rw [zyi,show i / 16=w by omega,h2 _ (by omega)] at hd;cases hd
  . refine .inr (.inl ⟨h1,16*w+(15 - t),by omega,by omega,?_,fun j a b hd=>?_⟩)
    . rw [zyi,(hpos t h2).1,(hpos t h2).2];exact h3
    . rw [zyi,show j / 16=w by omega] at hd;have:=h4 _ (by omega) hd;omega
  . refine .inr (.inr ⟨h1,16*w+(15 - s),16*w+(15 - t),by omega,by omega,by omega,?_,?_⟩)
    . rw [zyi,(hpos s h2).1,(hpos s h2).2];exact h5
    . rw [zyi,(hpos t h3).1,(hpos t h3).2];exact h6
theorem yl6 {p q:Pat} (hp:zac p.bits=true) (hq:zac q.bits=true) {w:Nat} (h:w<10):dW p q w<65536 :=
  Nat.xor_lt_two_pow (n:=16) (zbf hp h).2 (zbf hq h).2
structure zmf (p q r:Pat) (i:Nat):Prop where
  eq:p.mask=q.mask
  lt:i<160
  ne:Dp p q i
  one:∀ j,j<160->j≠i->hbit p.bits j=hbit q.bits j
  rm:zac r.mask=true
  rb:zac r.bits=true
  mask:∀ j,j<160->hbit r.mask j=(hbit p.mask j && !decide (j=i))
  bits:∀ j,j<160->hbit r.bits j=(hbit p.bits j && !decide (j=i))
def zvh (p q:Pat) (r:Pat×Bool):Prop:=(r.2=true/\∃ i,zmf p q r.1 i)\/(r=(⟨zA 10,zA 10⟩,false)/\¬ ∃ s i,zmf p q s i)
theorem zmf.uniq {p q r s:Pat} {i j:Nat} (h:zmf p q r i) (k:zmf p q s j):r=s:=by
  have e:i=j:=by
    by_cases c:i=j
    . exact c
    . exact absurd (k.one i h.lt c) h.ne
  subst e;have a:=zn6 h.rm k.rm fun j hj=>by rw [h.mask j hj,k.mask j hj]
  have b:=zn6 h.rb k.rb fun j hj=>by rw [h.bits j hj,k.bits j hj]
  cases r;cases s;simp only at a b;rw [a,b]
theorem zvh.uniq {p q:Pat} {r s:Pat×Bool} (h:zvh p q r) (k:zvh p q s):r=s:=by
  rcases h with ⟨h1,i,h2⟩|⟨h1,h2⟩
  . rcases k with ⟨k1,j,k2⟩|⟨k1,k2⟩
    . have:=h2.uniq k2;cases r;cases s;simp only at h1 k1 this;rw [h1,k1,this]
    . exact absurd ⟨_,_,h2⟩ k2
  . rcases k with ⟨k1,j,k2⟩|⟨k1,k2⟩
    . exact absurd ⟨_,_,k2⟩ h2
    . rw [h1,k1]
theorem zmf.right {p q r:Pat} {i:Nat} (h:zmf p q r i) (hp:zaf p=true):zaf r=true:=by
  refine zah.2 ⟨h.rm,h.rb,fun j hj hb=>?_⟩;rw [h.bits j hj] at hb;rw [h.mask j hj];simp only [fj] at hb ⊢;exact ⟨(zah.1 hp).2.2 j hj hb.1,hb.2⟩
theorem yly {k:Nat} {p q:Pat} (hp:zaf p=true) (hq:zaf q=true):∀ m j n (x x2:Ar 10),j<=10->10 - j<m->Tri (Dp p q) (16*j) n ->
    (∀ w:Nat,w<10->gx x.l (w:Int)=(if w<j then ((hw p.mask w - (hw p.mask w &&& dW p q w):Nat):Int) else (hw p.mask w:Int))) ->
    (∀ w:Nat,w<10->gx x2.l (w:Int)=(if w<j then ((hw p.bits w - (hw p.bits w &&& dW p q w):Nat):Int) else (hw p.bits w:Int))) ->
    ∃ n' x' x2',ze5 k q m (n:Int) (j:Int) x x2=some (((n':Nat):Int),x',x2')/\Tri (Dp p q) 160 n' /\
      (∀ w:Nat,w<10->gx x'.l (w:Int)=((hw p.mask w - (hw p.mask w &&& dW p q w):Nat):Int))/\(∀ w:Nat,w<10->gx x2'.l (w:Int)=((hw p.bits w - (hw p.bits w &&& dW p q w):Nat):Int)):=by
  obtain ⟨pm,pb,_⟩:=zah.1 hp;obtain ⟨qm,qb,_⟩:=zah.1 hq;intro m
  induction m with
  |zero=>intro j n x x2 h1 h2;omega
  |succ m ih =>
    intro j n x x2 h1 h2 hT hx hx2;rw [ze5];by_cases c:j<10
    . obtain ⟨b1,b2⟩:=zbf pb c;obtain ⟨m1,m2⟩:=zbf pm c;obtain ⟨q1,q2⟩:=zbf qb c;have e1:=hx j c;have e2:=hx2 j c;rw [zAd (Nat.lt_irrefl _)] at e1 e2;have hd:=yl6 pb qb c;have hn:=hT.1;rw [zAc (by omega),zAc ⟨by omega,by omega⟩,e1,e2,q1,z7q (by omega) (by omega),show hw p.bits j ^^^ hw q.bits j=dW p q j from rfl,wru (by omega),zv1 hd,ff,zuq (by omega) (by omega),zuq (by omega) (by omega),za4 j (by omega)];have hc:=(z22 (dW p q j)).1;have ew:fi.wrap ((n:Int)+((cntB 16 (dW p q j):Nat):Int))=((n+cntB 16 (dW p q j):Nat):Int):=by rw [wr64 (by omega)];omega
      rw [ew];refine ih (j+1) _ _ _ (by omega) (by omega) ?_ ?_ ?_
      . have:=hT.step (w:=16) (c:=cntB 16 (dW p q j)) hc (yfo j);rw [show 16*(j+1)=16*j+16 by omega];exact this
      . intro w hw';by_cases ew:j=w
        . subst ew;rw [zf3 _ c,zAc (by omega)]
        . rw [zit _ hw' ew,hx w hw'];by_cases cw:w<j
          . rw [zAc cw,zAc (by omega)]
          . rw [zAd cw,zAd (by omega)]
      . intro w hw';by_cases ew:j=w
        . subst ew;rw [zf3 _ c,zAc (by omega)]
        . rw [zit _ hw' ew,hx2 w hw'];by_cases cw:w<j
          . rw [zAc cw,zAc (by omega)]
          . rw [zAd cw,zAd (by omega)]
    . obtain rfl:j=10:=by omega
      rw [zAd (by decide)];exact ⟨n,x,x2,rfl,hT,fun w hw'=>by rw [hx w hw',zAc hw'],fun w hw'=>by rw [hx2 w hw',zAc hw']⟩
theorem z23 {a y:Ar 10} {d:Nat->Nat} (ha:zac a=true) (hd:∀ w,w<10->d w<65536) (h:∀ w:Nat,w<10->gx y.l (w:Int)=((hw a w - (hw a w &&& d w):Nat):Int)):zac y=true/\∀ j,j<160->hbit y j=(hbit a j && !(d (j / 16)).testBit (15 - j % 16)):=by
  refine ⟨zil fun j hj=>⟨_,h j hj,?_⟩,fun j hj=>?_⟩
  . have:=(zbf ha hj).2;omega
  . have e:hw y (j / 16)=hw a (j / 16) - (hw a (j / 16) &&& d (j / 16)):=by
      unfold hw;have:=h (j / 16) (by omega);rw [this];rfl
    unfold hbit;rw [e];have h1:=(zbf ha (show j / 16<10 by omega)).2;have h2:=hd (j / 16) (by omega);exact zs5 (by omega) (by omega) _
theorem z3g {k:Nat} {p q:Pat} (hp:zaf p=true) (hq:zaf q=true) (hk:10<k):∃ r,zh9 k p q=some r/\zvh p q r:=by
  obtain ⟨pm,pb,_⟩:=zah.1 hp;obtain ⟨qm,qb,_⟩:=zah.1 hq;unfold zh9;by_cases he:p.mask=q.mask
  . rw [zAc he];obtain ⟨n',x',x2',e,hT,h1,h2⟩:=yly (k:=k) hp hq k 0 0 p.mask p.bits (by omega) (by omega) Tri.zero (fun w hw'=>by rw [zAd (by omega)];exact (zbf pm hw').1) (fun w hw'=>by rw [zAd (by omega)];exact (zbf pb hw').1);rw [show ((0:Nat):Int)=0 from rfl] at e;rw [e,ff];rcases hT.2 with ⟨hn,hT⟩|⟨hn,i,t1,t2,t3⟩|⟨hn,i,j,t1,t2,t3,t4,t5⟩
    . rw [zAc (by simp only;omega)];exact ⟨_,rfl,.inr ⟨rfl,fun ⟨s,i,hj⟩=>hT i hj.lt hj.ne⟩⟩
    . rw [zAd (by simp only;omega)];obtain ⟨r1,r2⟩:=z23 pm (fun w hw'=>yl6 pb qb hw') h1;obtain ⟨r3,r4⟩:=z23 pb (fun w hw'=>yl6 pb qb hw') h2
      have hbit1:∀ j,j<160->(dW p q (j / 16)).testBit (15 - j % 16)=decide (j=i):=fun j hj=>by
        rw [ku,<- zyi,decide_eq_true_eq];exact ⟨t3 j hj,fun e=>by rw [e];exact t2⟩
      refine ⟨_,rfl,.inl ⟨rfl,i,he,t1,t2,fun j hj hne=>?_,r1,r3,fun j hj=>?_,fun j hj=>?_⟩⟩
      . by_cases hd:hbit p.bits j=hbit q.bits j
        . exact hd
        . exact absurd (t3 j hj hd) hne
      . rw [r2 j hj,hbit1 j hj]
      . rw [r4 j hj,hbit1 j hj]
    . rw [zAc (by simp only;omega)];refine ⟨_,rfl,.inr ⟨rfl,fun ⟨s,a,hj⟩=>?_⟩⟩;by_cases c:i=a
      . exact t5 (hj.one j t2 (by omega))
      . exact t4 (hj.one i t1 c)
  . rw [zAd he];exact ⟨_,rfl,.inr ⟨rfl,fun ⟨s,i,hj⟩=>he hj.eq⟩⟩
theorem yf2 {k:Nat} {p q:Pat} (hp:zaf p=true) (hq:zaf q=true) (hk:16<k):∀ m j n (a:Int),j<=160->160 - j<m->Tri (Dp p q) j n->(n=1->∃ i:Nat,a=(i:Int)/\i<j/\Dp p q i) ->
    ∃ n' a',zeo k p q m a (n:Int) (j:Int)=some (a',((n':Nat):Int))/\Tri (Dp p q) 160 n'/\(n'=1->∃ i:Nat,a'=(i:Int)/\i<160/\Dp p q i):=by
  obtain ⟨pm,pb,_⟩:=zah.1 hp;obtain ⟨qm,qb,_⟩:=zah.1 hq;intro m
  induction m with
  |zero=>intro j n a h1 h2;omega
  |succ m ih =>
    intro j n a h1 h2 hT ha;rw [zeo];by_cases c:j<160
    . have hn:=hT.1;rw [zAc (ydb c),zgh pb c hk,ff,zgh qb c hk,ff,za4 j (by omega)];by_cases hd:hbit p.bits j=hbit q.bits j
      . rw [zAd (by rw [hd];exact fun h=>h rfl)];refine ih (j+1) n a (by omega) (by omega) ?_ fun e=>?_
        . exact hT.step (w:=1) (c:=0) (by omega) (.inl ⟨rfl,fun i a b=>by rw [show i=j by omega];exact fun h=>h hd⟩)
        . obtain ⟨i,q1,q2,q3⟩:=ha e;exact ⟨i,q1,by omega,q3⟩
      . rw [zAc (z0b.2 hd),za4 n (by omega)];refine ih (j+1) (n+1) j (by omega) (by omega) ?_ fun e=>⟨j,rfl,by omega,hd⟩;exact hT.step (w:=1) (c:=1) (by omega) (.inr (.inl ⟨rfl,j,fp _,by omega,hd,fun i a b _=>by omega⟩))
    . obtain rfl:j=160:=by omega
      rw [zAd (by decide)];exact ⟨n,a,rfl,hT,ha⟩
theorem yf5 {k:Nat} {p q:Pat} (hp:zaf p=true) (hq:zaf q=true) (hk:160<k):∃ r,zmt k p q=some r/\zvh p q r:=by
  obtain ⟨pm,pb,_⟩:=zah.1 hp;obtain ⟨n',a',e,hT,ha⟩:=yf2 (k:=k) hp hq (by omega) k 0 0 (-1) (by omega) (by omega) Tri.zero (fun h=>by cases h);unfold zmt;rw [show ((0:Nat):Int)=0 from rfl] at e;rw [e,ff];by_cases he:p.mask=q.mask
  . rw [zAc he,ff];rcases hT.2 with ⟨hn,hT⟩|⟨hn,i,t1,t2,t3⟩|⟨hn,i,j,t1,t2,t3,t4,t5⟩
    . rw [zAc (by simp only [decide_eq_true_eq];omega)];exact ⟨_,rfl,.inr ⟨rfl,fun ⟨s,i,hj⟩=>hT i hj.lt hj.ne⟩⟩
    . rw [zAd (by simp only [decide_eq_true_eq];omega)];obtain ⟨i',q1,q2,q3⟩:=ha hn;obtain rfl:=t3 i' q2 q3;simp only [q1];obtain ⟨x,x1,x2,x3⟩:=zj6 (k:=k) (b:=false) pm q2 (by omega);obtain ⟨y,y1,y2,y3⟩:=zj6 (k:=k) (b:=false) pb q2 (by omega);rw [show ((false.toNat:Nat):Int)=0 from rfl] at x1 y1;rw [x1,ff,y1,ff];refine ⟨_,rfl,.inl ⟨rfl,i',he,q2,q3,fun j hj hne=>?_,x2,y2,fun j hj=>?_,fun j hj=>?_⟩⟩
      . by_cases hd:hbit p.bits j=hbit q.bits j
        . exact hd
        . exact absurd (t3 j hj hd) hne
      . rw [x3 j hj];by_cases c:j=i'
        . rw [zAc c,zAa c];simp
        . rw [zAd c,zAb c];simp
      . rw [y3 j hj];by_cases c:j=i'
        . rw [zAc c,zAa c];simp
        . rw [zAd c,zAb c];simp
    . rw [zAc (by simp only [decide_eq_true_eq];omega)];refine ⟨_,rfl,.inr ⟨rfl,fun ⟨s,a,hj⟩=>?_⟩⟩;by_cases c:i=a
      . exact t5 (hj.one j t2 (by omega))
      . exact t4 (hj.one i t1 c)
  . rw [zAd he,ff,zAc rfl];exact ⟨_,rfl,.inr ⟨rfl,fun ⟨s,i,hj⟩=>he hj.eq⟩⟩
def zhj (k:Nat)  : Option Rule:=some (⟨0,⟨zA 10,zA 10⟩,-1,[]⟩:Rule)
theorem zj3 (ax:Axs) (hx:NoAx ax) (k:Nat)  (v:Rule) (H:zhj k  = some v):Pure Try.prog (EE ax) [] 40 [] (zaj v):=by
 rw [zhj] at H;refine en [.cell 0 59] 2 [] (hx.no _ (by decide)) (fn40 ax) ?_;intro h hh;apply fg;refine rk [0] [] hh fun h hh=>?_;apply fg;refine rk [0] [] hh fun h hh=>?_;refine nz 0 22 1 ?_;cases H;exact rtc hh
def zc3 (k:Nat) (t:List Rule) (k_:Int):Nat->Int->(List Pat)->Nat->Option (List Pat×Nat)
 |0,_,_,_=>none
 |m+1,i,l,n=>(if i<k_ then (if 0<=i/\i<(t.length:Int) then (if (n+1)*161<=1000000000 then zc3 k t k_ m (fi.wrap (i+1)) (l++[(gx t i).mat]) (n+1) else none) else none) else some (l,n))
def zhk (k:Nat) (t:List Rule) (k_:Int):Option (List Pat×Nat):=((zc3 k t k_ k 0 [] 0:Option (List Pat×Nat)).bind fun s_=>some (s_.1,s_.2))
theorem zl6 (ax:Axs) (hx:NoAx ax) (k:Nat) (t:List Rule) (k_:Int) (v:List Pat×Nat) (H:zhk k t k_=some v):Call Try.prog (EE ax) [] 44 [zae t,.int .i64 k_] (stL []) (tupT [.arr 0 20 0 v.2 v.2 (v.2*20)]) (stL [.cells false (v.2*20) (vecC ePat v.1)]):=by
 rw [zhk] at H;refine enBr [.tmp 4] 21 [0,1] (hx.no _ (by decide)) (fn44 ax) ?_;intro h hh;apply fg;refine rk [0,1] [] hh fun h hh=>?_;apply fg;refine rk [0,1,5] [] hh fun h hh=>?_;refine vk 5 20 [0,1,5] hh fun h hh=>?_;repeat apply fg
 refine rk [0,1,5,6] [] hh fun h hh=>?_;obtain ⟨s_,H1,H⟩:=zab H;refine cu [5] 1 (fun h bs=>(h 5=.arr 0 20 0 s_.2 s_.2 (s_.2*20))/\bs=[.cells false (s_.2*20) (vecC ePat s_.1)]) ?_ ?_
 .skip;apply gl;refine jj [0,1,5,6] (fun m h bs=>∃ (i:Int) (l:List Pat) (n:Nat),zc3 k t k_ m i l n=some s_/\(h 0=zae t/\h 1=.int .i64 k_/\h 5=.arr 0 20 0 n n (n*20)/\h 6=.int .i64 i)/\bs=[.cells false (n*20) (vecC ePat l)]) ?_ k _ _ ?_;rotate_left
  .exact ⟨0,[],0,H1,kq hh,rfl⟩
  clear hh h H1;rintro m h bs ⟨i,l,n,H1,hh,rfl⟩;rcases m with _|m
  .rw [zc3] at H1;cases H1
  rw [zc3] at H1;repeat apply fg
  refine rk [0,1,5,6,9] [] hh fun h hh=>?_;rcases isp H1 with ⟨c1,H1⟩|⟨c1,H1⟩;rotate_left
  .skip;refine cf (f2 hh (zAb c1)) ?_;refine xk ?_;cases H1;exact ce hh ⟨kq hh,rfl⟩
  refine ct (f2 hh (zAa c1)) ?_;refine sk ?_;apply fg;apply gl;obtain ⟨g2,H1⟩:=isg H1;obtain ⟨g3,H1⟩:=isg H1;refine rg [] [] [.cells false ((n+1)*20) (vecC ePat (l++[(gx t i).mat]))] (fun h=>h 0=zae t/\h 1=.int .i64 k_/\h 5=.arr 0 20 0 (n+1) (n+1) ((n+1)*20)/\h 6=.int .i64 i) (f3 hh (zag g2) ((show vecC ePat [(gx t i).mat]=((((gx t i).mat).mask).l.map (fh .i64)++((((gx t i).mat).bits).l.map (fh .i64))) from zdk.trans rfl))) trivial fun h hh=>?_;refine rk [0,1,5,6] [] hh fun h hh=>?_;exact rd m hh ⟨(fi.wrap (i+1)),(l++[(gx t i).mat]),(n+1),H1,kq hh,rfl⟩
 clear hh h;rintro h bs ⟨hh,rfl⟩;apply fg;refine rk [4] [] hh fun h hh=>?_;cases H;exact rtB hh
def zct (k:Nat) (s_:List Rule×Nat) (s_2:List Rule×Nat) (i:Int):Nat->Bool->Int->(Ar 10)->Option (Bool×Ar 10)
 |0,_,_,_=>none
 |m+1,found2,k_,x2=>(if k_<(s_2.1.length:Int) then (if 0<=i/\i<(s_.1.length:Int) then (if 0<=k_/\k_<(s_2.1.length:Int) then ((zje k (gx s_.1 i) (gx s_2.1 k_)).bind fun am=>((znv k ((gx s_.1 i).mat) ((gx s_2.1 k_).mat)).bind fun af=>(((if am=true then some true else some (!af.2)):Option Bool).bind fun s_6=>(if s_6=true then zct k s_ s_2 i m found2 (fi.wrap (k_+1)) x2 else ((((zhk k s_.1 i).bind fun rb=>((zgz k s_2.1 k_).bind fun ac=>(if (rb.2+ac.length)*161<=1000000000 then (if ac.length=0 then (if rb.1.length=rb.2 then ((zen k af.1 rb.1).bind fun az=>some (az.2,rb.1,rb.2,az.1)) else none) else (if (rb.1++ac).length=rb.2+ac.length then ((zen k af.1 (rb.1++ac)).bind fun bc=>some (bc.2,rb.1++ac,rb.2+ac.length,bc.1)) else none)) else none))):Option (Bool×List Pat×Nat×Ar 10)).bind fun s_7=>(((if s_7.1=true then (if found2=true then ((zdd k s_7.2.2.2 x2).bind fun bj=>some (true,(decide (bj<0)))) else some (false,true)) else some (found2,false)):Option (Bool×Bool)).bind fun s_8=>(if s_8.2=true then zct k s_ s_2 i m true (fi.wrap (k_+1)) s_7.2.2.2 else zct k s_ s_2 i m s_8.1 (fi.wrap (k_+1)) x2))))))) else none) else none) else some (found2,x2))
def zdu (k:Nat) (s_:List Rule×Nat) (s_2:List Rule×Nat):Nat->Bool->Int->(Ar 10)->Option (Bool×Ar 10)
 |0,_,_,_=>none
 |m+1,found,i,x=>(if i<(s_.1.length:Int) then ((((zct k s_ s_2 i k found 0 x:Option (Bool×Ar 10)).bind fun s_5=>some (s_5.1,s_5.2)):Option (Bool×Ar 10)).bind fun s_4=>zdu k s_ s_2 m s_4.1 (fi.wrap (i+1)) s_4.2) else some (found,x))
def zjf (k:Nat) (t:List Rule) (u:List Rule):Option (Ar 10×Bool):=(((if (0+t.length)*201<=1000000000 then (if t.length=0 then ((zhj k ).bind fun bo=>(if (0+1)*201<=1000000000 then some ([bo],1) else none)) else ((zhj k ).bind fun bp=>(if (t.length+1)*201<=1000000000 then some (t++[bp],t.length+1) else none))) else none):Option (List Rule×Nat)).bind fun s_=>(if s_.1.length=s_.2 then (((if (0+u.length)*201<=1000000000 then (if u.length=0 then ((zhj k ).bind fun bv=>(if (0+1)*201<=1000000000 then some ([bv],1) else none)) else ((zhj k ).bind fun bw=>(if (u.length+1)*201<=1000000000 then some (u++[bw],u.length+1) else none))) else none):Option (List Rule×Nat)).bind fun s_2=>(if s_2.1.length=s_2.2 then ((zdu k s_ s_2 k false 0 (zA 10):Option (Bool×Ar 10)).bind fun s_3=>some (s_3.2,(!s_3.1))) else none)) else none))
theorem zy1 (ax:Axs) (hx:NoAx ax) (k:Nat) (t:List Rule) (u:List Rule) (v:Ar 10×Bool) (H:zjf k t u=some v):Pure Try.prog (EE ax) [] 18 [zae t,zae u] (tupT [.agg (v.1.l.map (fh .i64)),.bool v.2]):=by
 rw [zjf] at H;refine enN [.cell 4 43,.tmp 5] 97 [0,1] (hx.no _ (by decide)) (fn18 ax) ?_;intro h hh;apply fg;refine rk [0,1,4] [] hh fun h hh=>?_;obtain ⟨s_,H1,H⟩:=zab H;apply fg;refine cu [1,4,6] 2 (fun h bs=>(h 1=zae u/\h 4=.ptr 0 0 10/\h 6=.arr 1 23 0 s_.2 s_.2 (s_.2*23))/\bs=[.cells true 10 ((zA 10).l.map (fh .i64)),.cells false (s_.2*23) (vecC zaj s_.1)]) ?_ ?_
 .skip;obtain ⟨g1,H1⟩:=isg H1;rcases isp H1 with ⟨c2,H1⟩|⟨c2,H1⟩;rotate_left
  .skip;obtain ⟨bp,e5,H1⟩:=zab H1;obtain ⟨g6,H1⟩:=isg H1;refine rg [17] [(zaj bp,stL [.cells true 10 ((zA 10).l.map (fh .i64)),.cells false (t.length*23) (vecC zaj t)])] [.cells true 10 ((zA 10).l.map (fh .i64)),.cells false ((t.length+1)*23) (vecC zaj (t++[bp]))] (fun h=>h 1=zae u/\h 4=.ptr 0 0 10/\h 6=.arr 1 23 0 (t.length+1) (t.length+1) ((t.length+1)*23)) (f3 hh (zgg zaj t) (f3 (zbt (f:=zaj) (e:=23) (fun x=>zau x) t) (zet (f:=zaj) (fun x=>zio x) t) ((show vecC zaj [bp]=(fh .i64 bp.prio :: (bp.mat.mask.l.map (fh .i64)++(bp.mat.bits.l.map (fh .i64)++[fh .i64 bp.step,za3 bp.outs]))) from zdk.trans rfl)))) ?_ ?_
   .exact ⟨gd ((zj3 ax hx k  bp e5 ).call _),trivial⟩
   clear hh h;intro h hh;cases H1;exact ce hh ⟨kq hh,rfl⟩
  obtain ⟨bo,e3,H1⟩:=zab H1;obtain ⟨g4,H1⟩:=isg H1;refine rg [17] [(zaj bo,stL [.cells true 10 ((zA 10).l.map (fh .i64)),.cells true 0 (vecC zaj [])])] [.cells true 10 ((zA 10).l.map (fh .i64)),.cells false (1*23) (vecC zaj [bo])] (fun h=>h 1=zae u/\h 4=.ptr 0 0 10/\h 6=.arr 1 23 0 1 1 (1*23)) (f3 hh c2 (f3 (zgg zaj t) (zbt (f:=zaj) (e:=23) (fun x=>zau x) t) (f2 (zet (f:=zaj) (fun x=>zio x) t) ((show vecC zaj [bo]=(fh .i64 bo.prio :: (bo.mat.mask.l.map (fh .i64)++(bo.mat.bits.l.map (fh .i64)++[fh .i64 bo.step,za3 bo.outs]))) from zdk.trans rfl))))) ?_ ?_
  .exact ⟨gd ((zj3 ax hx k  bo e3 ).call _),trivial⟩
  clear hh h;intro h hh;cases H1;exact ce hh ⟨kq hh,rfl⟩
 clear hh h;rintro h bs ⟨hh,rfl⟩;obtain ⟨g7,H⟩:=isg H;apply fg;refine TW.freeze 6 (b:=1) (e:=23) (off:=0) (len:=s_.2) (cap:=s_.2) (M:=(s_.2*23)) (s_.1.map zaj) (kq hh) (by rfl) (by omega) (by omega) (by rw [gp];exact zc5 (e:=23) (fun x=>zau x) g7) (fun t ht=>by obtain ⟨x,_,rfl⟩:=jo.1 ht;first|rfl|exact zf6 _|exact za1 _|exact zd0 _|exact zau _ | (rw [fq];rfl)) (by rw [fq]<;>exact g7) (by omega) ?_;rw [zec _ _ _ (by simp only [lzA]<;>omega)];simp only [scA];refine gk [1,4,6] hh fun h hh=>?_;obtain ⟨s_2,H1,H⟩:=zab H;refine cu [4,6,7] 3 (fun h bs=>(h 4=.ptr 0 0 10/\h 6=zae s_.1/\h 7=.arr 2 23 0 s_2.2 s_2.2 (s_2.2*23))/\bs=[.cells true 10 ((zA 10).l.map (fh .i64)),.gone,.cells false (s_2.2*23) (vecC zaj s_2.1)]) ?_ ?_
 .skip;obtain ⟨g8,H1⟩:=isg H1;rcases isp H1 with ⟨c9,H1⟩|⟨c9,H1⟩;rotate_left
  .skip;obtain ⟨bw,e12,H1⟩:=zab H1;obtain ⟨g13,H1⟩:=isg H1;refine rg [23] [(zaj bw,stL [.cells true 10 ((zA 10).l.map (fh .i64)),.gone,.cells false (u.length*23) (vecC zaj u)])] [.cells true 10 ((zA 10).l.map (fh .i64)),.gone,.cells false ((u.length+1)*23) (vecC zaj (u++[bw]))] (fun h=>h 4=.ptr 0 0 10/\h 6=zae s_.1/\h 7=.arr 2 23 0 (u.length+1) (u.length+1) ((u.length+1)*23)) (f3 hh (zgg zaj u) (f3 (zbt (f:=zaj) (e:=23) (fun x=>zau x) u) (zet (f:=zaj) (fun x=>zio x) u) ((show vecC zaj [bw]=(fh .i64 bw.prio :: (bw.mat.mask.l.map (fh .i64)++(bw.mat.bits.l.map (fh .i64)++[fh .i64 bw.step,za3 bw.outs]))) from zdk.trans rfl)))) ?_ ?_
   .exact ⟨gd ((zj3 ax hx k  bw e12 ).call _),trivial⟩
   clear hh h;intro h hh;cases H1;exact ce hh ⟨kq hh,rfl⟩
  obtain ⟨bv,e10,H1⟩:=zab H1;obtain ⟨g11,H1⟩:=isg H1;refine rg [23] [(zaj bv,stL [.cells true 10 ((zA 10).l.map (fh .i64)),.gone,.cells true 0 (vecC zaj [])])] [.cells true 10 ((zA 10).l.map (fh .i64)),.gone,.cells false (1*23) (vecC zaj [bv])] (fun h=>h 4=.ptr 0 0 10/\h 6=zae s_.1/\h 7=.arr 2 23 0 1 1 (1*23)) (f3 hh c9 (f3 (zgg zaj u) (zbt (f:=zaj) (e:=23) (fun x=>zau x) u) (f2 (zet (f:=zaj) (fun x=>zio x) u) ((show vecC zaj [bv]=(fh .i64 bv.prio :: (bv.mat.mask.l.map (fh .i64)++(bv.mat.bits.l.map (fh .i64)++[fh .i64 bv.step,za3 bv.outs]))) from zdk.trans rfl))))) ?_ ?_
  .exact ⟨gd ((zj3 ax hx k  bv e10 ).call _),trivial⟩
  clear hh h;intro h hh;cases H1;exact ce hh ⟨kq hh,rfl⟩
 clear hh h;rintro h bs ⟨hh,rfl⟩;obtain ⟨g14,H⟩:=isg H;apply fg;refine TW.freeze 7 (b:=2) (e:=23) (off:=0) (len:=s_2.2) (cap:=s_2.2) (M:=(s_2.2*23)) (s_2.1.map zaj) (kq hh) (by rfl) (by omega) (by omega) (by rw [gp];exact zc5 (e:=23) (fun x=>zau x) g14) (fun t ht=>by obtain ⟨x,_,rfl⟩:=jo.1 ht;first|rfl|exact zf6 _|exact za1 _|exact zd0 _|exact zau _ | (rw [fq];rfl)) (by rw [fq]<;>exact g14) (by omega) ?_;rw [zec _ _ _ (by simp only [lzA]<;>omega)];simp only [scA];refine gk [4,6,7] hh fun h hh=>?_;refine rk [4,6,7,8] [] (f2 hh (bz43 ax)) fun h hh=>?_;apply fg;refine rk [4,6,7,8,9] [] hh fun h hh=>?_;repeat apply fg
 refine rk [4,6,7,8,9,10] [] hh fun h hh=>?_;obtain ⟨s_3,H1,H⟩:=zab H;refine cu [4,8,9] 4 (fun h bs=>(h 4=.ptr 0 0 10/\h 8=.ptr 3 0 10/\h 9=.bool s_3.1)/\bs=[.cells true 10 ((zA 10).l.map (fh .i64)),.gone,.gone,.cells true 10 (s_3.2.l.map (fh .i64))]) ?_ ?_
 .skip;apply gl;refine jj [4,6,7,8,9,10] (fun m h bs=>∃ (found:Bool) (i:Int) (x:Ar 10),zdu k s_ s_2 m found i x=some s_3/\(h 4=.ptr 0 0 10/\h 6=zae s_.1/\h 7=zae s_2.1/\h 8=.ptr 3 0 10/\h 9=.bool found/\h 10=.int .i64 i)/\bs=[.cells true 10 ((zA 10).l.map (fh .i64)),.gone,.gone,.cells true 10 (x.l.map (fh .i64))]) ?_ k _ _ ?_;rotate_left
  .exact ⟨false,0,(zA 10),H1,kq hh,rfl⟩
  clear hh h H1;rintro m h bs ⟨found,i,x,H1,hh,rfl⟩;rcases m with _|m
  .rw [zdu] at H1;cases H1
  rw [zdu] at H1;repeat apply fg
  refine rk [4,6,7,8,9,10,33] [] hh fun h hh=>?_;rcases isp H1 with ⟨c15,H1⟩|⟨c15,H1⟩;rotate_left
  .skip;refine cf (f2 hh (zAb c15)) ?_;refine xk ?_;cases H1;exact ce hh ⟨kq hh,rfl⟩
  refine ct (f2 hh (zAa c15)) ?_;refine sk ?_;obtain ⟨s_4,H2,H1⟩:=zab H1;apply fg;refine cu [4,6,7,8,9,10] 4 (fun h bs=>(h 4=.ptr 0 0 10/\h 6=zae s_.1/\h 7=zae s_2.1/\h 8=.ptr 3 0 10/\h 9=.bool s_4.1/\h 10=.int .i64 i)/\bs=[.cells true 10 ((zA 10).l.map (fh .i64)),.gone,.gone,.cells true 10 (s_4.2.l.map (fh .i64))]) ?_ ?_
  .skip;apply gl;apply fg;refine rk [4,6,7,8,9,10,11] [] hh fun h hh=>?_;obtain ⟨s_5,H3,H2⟩:=zab H2;refine cu [4,6,7,8,9,10] 4 (fun h bs=>(h 4=.ptr 0 0 10/\h 6=zae s_.1/\h 7=zae s_2.1/\h 8=.ptr 3 0 10/\h 9=.bool s_5.1/\h 10=.int .i64 i)/\bs=[.cells true 10 ((zA 10).l.map (fh .i64)),.gone,.gone,.cells true 10 (s_5.2.l.map (fh .i64))]) ?_ ?_
   .skip;apply gl;refine jj [4,6,7,8,9,10,11] (fun m h bs=>∃ (found2:Bool) (k_:Int) (x2:Ar 10),zct k s_ s_2 i m found2 k_ x2=some s_5/\(h 4=.ptr 0 0 10/\h 6=zae s_.1/\h 7=zae s_2.1/\h 8=.ptr 3 0 10/\h 9=.bool found2/\h 10=.int .i64 i/\h 11=.int .i64 k_)/\bs=[.cells true 10 ((zA 10).l.map (fh .i64)),.gone,.gone,.cells true 10 (x2.l.map (fh .i64))]) ?_ k _ _ ?_;rotate_left
    .exact ⟨found,0,x,H3,kq hh,rfl⟩
    clear hh h H3;rintro m h bs ⟨found2,k_,x2,H3,hh,rfl⟩;rcases m with _|m
    .rw [zct] at H3;cases H3
    rw [zct] at H3;repeat apply fg
    refine rk [4,6,7,8,9,10,11,39] [] hh fun h hh=>?_;rcases isp H3 with ⟨c16,H3⟩|⟨c16,H3⟩;rotate_left
    .skip;refine cf (f2 hh (zAb c16)) ?_;refine xk ?_;cases H3;exact ce hh ⟨kq hh,rfl⟩
    refine ct (f2 hh (zAa c16)) ?_;refine sk ?_;apply fg;apply gl;obtain ⟨g17,H3⟩:=isg H3;obtain ⟨g18,H3⟩:=isg H3;obtain ⟨am,e19,H3⟩:=zab H3;apply fg;refine dk 8 [4,6,7,8,9,10,11,12] [] [] [(.bool am,stL [.cells true 10 ((zA 10).l.map (fh .i64)),.gone,.gone,.cells true 10 (x2.l.map (fh .i64))])] (f3 hh (zag g17) (zag g18)) trivial ?_ ?_
    .exact ⟨gd ((zpa ax hx k (gx s_.1 i) (gx s_2.1 k_) am e19 ).call _),trivial⟩
    clear hh h;intro h hh;obtain ⟨af,e20,H3⟩:=zab H3;apply fg;refine dk 10 [4,6,7,8,9,10,11,12,13,14] [] [] [(.tup [ePat af.1,.bool af.2],stL [.cells true 10 ((zA 10).l.map (fh .i64)),.gone,.gone,.cells true 10 (x2.l.map (fh .i64))])] (f3 hh (zag g17) (zag g18)) trivial ?_ ?_
    .exact ⟨gd ((zte ax hx k ((gx s_.1 i).mat) ((gx s_2.1 k_).mat) af e20 ).call _),trivial⟩
    clear hh h;intro h hh;refine zk 13 4 20 true (af.1.mask.l.map (fh .i64)++(af.1.bits.l.map (fh .i64))) [4,6,7,8,9,10,11,12,13,14] hh fun h hh=>?_;obtain ⟨s_6,H4,H3⟩:=zab H3;repeat apply fg
    refine cu [4,6,7,8,9,10,11,13,69] 5 (fun h bs=>(h 4=.ptr 0 0 10/\h 6=zae s_.1/\h 7=zae s_2.1/\h 8=.ptr 3 0 10/\h 9=.bool found2/\h 10=.int .i64 i/\h 11=.int .i64 k_/\h 13=.cp (af.1.mask.l.map (fh .i64)++(af.1.bits.l.map (fh .i64)))/\h 69=.bool s_6)/\bs=[.cells true 10 ((zA 10).l.map (fh .i64)),.gone,.gone,.cells true 10 (x2.l.map (fh .i64)),.gone]) ?_ ?_
    .skip;rcases isb H4 with ⟨c21,H4⟩|⟨c21,H4⟩;rotate_left
     .skip;refine rk [4,6,7,8,9,10,11,13,69] [] (f2 hh c21) fun h hh=>?_;cases H4;exact ce hh ⟨kq hh,rfl⟩
     refine rk [4,6,7,8,9,10,11,13,69] [] (f2 hh c21) fun h hh=>?_;cases H4;exact ce hh ⟨kq hh,rfl⟩
    clear hh h;rintro h bs ⟨hh,rfl⟩;rcases isb H3 with ⟨c22,H3⟩|⟨c22,H3⟩;rotate_left
    .skip;refine cf (f2 hh c22) ?_;refine sk ?_;obtain ⟨s_7,H4,H3⟩:=zab H3;apply fg;refine cu [4,6,7,8,9,10,11,15,16] 7 (fun h bs=>(h 4=.ptr 0 0 10/\h 6=zae s_.1/\h 7=zae s_2.1/\h 8=.ptr 3 0 10/\h 9=.bool found2/\h 10=.int .i64 i/\h 11=.int .i64 k_/\h 15=.ptr 6 0 10/\h 16=.bool s_7.1)/\bs=[.cells true 10 ((zA 10).l.map (fh .i64)),.gone,.gone,.cells true 10 (x2.l.map (fh .i64)),.gone,.cells false (s_7.2.2.1*20) (vecC ePat s_7.2.1),.cells true 10 (s_7.2.2.2.l.map (fh .i64))]) ?_ ?_
     .skip;obtain ⟨rb,e23,H4⟩:=zab H4;obtain ⟨ac,e24,H4⟩:=zab H4;obtain ⟨g25,H4⟩:=isg H4;rcases isp H4 with ⟨c26,H4⟩|⟨c26,H4⟩;rotate_left
      .skip;obtain ⟨g29,H4⟩:=isg H4;obtain ⟨bc,e30,H4⟩:=zab H4;refine dcg 3 [13] [] [] [(.arr 5 20 0 rb.2 rb.2 (rb.2*20),stL [.cells true 10 ((zA 10).l.map (fh .i64)),.gone,.gone,.cells true 10 (x2.l.map (fh .i64)),.gone,.cells false (rb.2*20) (vecC ePat rb.1)]),(lPat ac,stL [.cells true 10 ((zA 10).l.map (fh .i64)),.gone,.gone,.cells true 10 (x2.l.map (fh .i64)),.gone,.cells false (rb.2*20) (vecC ePat rb.1)]),(.tup [.agg (bc.1.l.map (fh .i64)),.bool bc.2],stL [.cells true 10 ((zA 10).l.map (fh .i64)),.gone,.gone,.cells true 10 (x2.l.map (fh .i64)),.gone,.cells false ((rb.2+ac.length)*20) (vecC ePat (rb.1++ac))])] [.cells true 10 ((zA 10).l.map (fh .i64)),.gone,.gone,.cells true 10 (x2.l.map (fh .i64)),.gone,.cells false ((rb.2+ac.length)*20) (vecC ePat (rb.1++ac)),.cells true 10 (bc.1.l.map (fh .i64))] (fun h=>h 4=.ptr 0 0 10/\h 6=zae s_.1/\h 7=zae s_2.1/\h 8=.ptr 3 0 10/\h 9=.bool found2/\h 10=.int .i64 i/\h 11=.int .i64 k_/\h 15=.ptr 6 0 10/\h 16=.bool bc.2) (f3 hh c22 (f3 (zgg ePat ac) (zbt (f:=ePat) (e:=20) (fun x=>za1 x) ac) (zet (f:=ePat) (fun x=>zn0 x) ac))) trivial ?_ ?_
       .exact ⟨car [5] (zl6 ax hx k s_.1 i rb e23),gd (i7 (zkg ax hx k s_2.1 k_ ac e24 ) (by first|rfl|simp only [c22])),(by have q:=gd (Pure.lend (S:=stL [.cells true 10 ((zA 10).l.map (fh .i64)),.gone,.gone,.cells true 10 (x2.l.map (fh .i64)),.gone,.cells false ((rb.2+ac.length)*20) (vecC ePat (rb.1++ac))]) (args:=[ePat af.1,.arr 5 20 0 (rb.2+ac.length) (rb.2+ac.length) ((rb.2+ac.length)*20)]) (zms ax hx k af.1 (rb.1++ac) bc e30 ) (fd (Or.inl rfl) (fd (zsn (fun x=>za1 x) (by decide) (by rfl) g29) (trivial))) (by first|rfl | (simp only [tupT,T.flat,T.flatL,zuv,zix,gc];done)));(try simp only [c22] at q);first|exact q | (simp only [Nat.add_mul,Nat.one_mul,zaw] at q ⊢;exact q)),trivial⟩
       clear hh h;intro h hh;cases H4;exact ce hh ⟨kq hh,rfl⟩
      obtain ⟨g27,H4⟩:=isg H4;obtain ⟨az,e28,H4⟩:=zab H4;refine dcg 3 [13] [] [] [(.arr 5 20 0 rb.2 rb.2 (rb.2*20),stL [.cells true 10 ((zA 10).l.map (fh .i64)),.gone,.gone,.cells true 10 (x2.l.map (fh .i64)),.gone,.cells false (rb.2*20) (vecC ePat rb.1)]),(lPat ac,stL [.cells true 10 ((zA 10).l.map (fh .i64)),.gone,.gone,.cells true 10 (x2.l.map (fh .i64)),.gone,.cells false (rb.2*20) (vecC ePat rb.1)]),(.tup [.agg (az.1.l.map (fh .i64)),.bool az.2],stL [.cells true 10 ((zA 10).l.map (fh .i64)),.gone,.gone,.cells true 10 (x2.l.map (fh .i64)),.gone,.cells false (rb.2*20) (vecC ePat rb.1)])] [.cells true 10 ((zA 10).l.map (fh .i64)),.gone,.gone,.cells true 10 (x2.l.map (fh .i64)),.gone,.cells false (rb.2*20) (vecC ePat rb.1),.cells true 10 (az.1.l.map (fh .i64))] (fun h=>h 4=.ptr 0 0 10/\h 6=zae s_.1/\h 7=zae s_2.1/\h 8=.ptr 3 0 10/\h 9=.bool found2/\h 10=.int .i64 i/\h 11=.int .i64 k_/\h 15=.ptr 6 0 10/\h 16=.bool az.2) (f3 hh c22 (f3 c26 (zgg ePat ac) (f2 (zbt (f:=ePat) (e:=20) (fun x=>za1 x) ac) (zet (f:=ePat) (fun x=>zn0 x) ac)))) trivial ?_ ?_
      .exact ⟨car [5] (zl6 ax hx k s_.1 i rb e23),gd (i7 (zkg ax hx k s_2.1 k_ ac e24 ) (by first|rfl|simp only [c22])),(by have q:=gd (Pure.lend (S:=stL [.cells true 10 ((zA 10).l.map (fh .i64)),.gone,.gone,.cells true 10 (x2.l.map (fh .i64)),.gone,.cells false (rb.2*20) (vecC ePat rb.1)]) (args:=[ePat af.1,.arr 5 20 0 rb.2 rb.2 (rb.2*20)]) (zms ax hx k af.1 rb.1 az e28 ) (fd (Or.inl rfl) (fd (zsn (fun x=>za1 x) (by decide) (by rfl) g27) (trivial))) (by first|rfl | (simp only [tupT,T.flat,T.flatL,zuv,zix,gc];done)));(try simp only [c22] at q);first|exact q | (simp only [Nat.add_mul,Nat.one_mul,zaw] at q ⊢;exact q)),trivial⟩
      clear hh h;intro h hh;cases H4;exact ce hh ⟨kq hh,rfl⟩
     clear hh h;rintro h bs ⟨hh,rfl⟩;obtain ⟨s_8,H4,H3⟩:=zab H3;apply fg;refine cu [4,6,7,8,9,10,11,15,92] 7 (fun h bs=>(h 4=.ptr 0 0 10/\h 6=zae s_.1/\h 7=zae s_2.1/\h 8=.ptr 3 0 10/\h 9=.bool s_8.1/\h 10=.int .i64 i/\h 11=.int .i64 k_/\h 15=.ptr 6 0 10/\h 92=.bool s_8.2)/\bs=[.cells true 10 ((zA 10).l.map (fh .i64)),.gone,.gone,.cells true 10 (x2.l.map (fh .i64)),.gone,.cells false (s_7.2.2.1*20) (vecC ePat s_7.2.1),.cells true 10 (s_7.2.2.2.l.map (fh .i64))]) ?_ ?_
     .skip;rcases isb H4 with ⟨c31,H4⟩|⟨c31,H4⟩;rotate_left
      .skip;refine rk [4,6,7,8,9,10,11,15,92] [] (f3 hh c31 c22) fun h hh=>?_;cases H4;exact ce hh ⟨kq hh,rfl⟩
      rcases isb H4 with ⟨c32,H4⟩|⟨c32,H4⟩;rotate_left
      .skip;refine rk [4,6,7,8,9,10,11,15,92] [] (f3 hh c31 (f2 c32 c22)) fun h hh=>?_;cases H4;exact ce hh ⟨kq (f2 hh c32),rfl⟩
      obtain ⟨bj,e33,H4⟩:=zab H4;refine rkp [4,6,7,8,9,10,11,15,92] [] [.int .i64 bj] (f3 hh c31 (f2 c32 c22)) ?_ ?_
      .exact ⟨gd (i7 (zi4 ax hx k s_7.2.2.2 x2 bj e33 ) (by first|rfl|simp only [c22,c31,c32])),trivial⟩
      clear hh h;intro h hh;cases H4;exact ce hh ⟨kq (f2 hh c32),rfl⟩
     clear hh h;rintro h bs ⟨hh,rfl⟩;rcases isb H3 with ⟨c34,H3⟩|⟨c34,H3⟩;rotate_left
     .skip;refine cf (f2 hh c34) ?_;refine sk ?_;refine rk [4,6,7,8,9,10,11] [] (f3 hh c22 c34) fun h hh=>?_;exact rd m hh ⟨s_8.1,(fi.wrap (k_+1)),x2,H3,kq hh,rfl⟩
     refine ct (f2 hh c34) ?_;apply fg;refine rk [4,6,7,8,10,11] [] (f3 hh c22 c34) fun h hh=>?_;refine rk [4,6,7,8,9,10,11] [] (f3 hh c22 c34) fun h hh=>?_;refine rk [4,6,7,8,9,10,11] [] (f3 hh c22 c34) fun h hh=>?_;exact rd m hh ⟨true,(fi.wrap (k_+1)),s_7.2.2.2,H3,kq hh,rfl⟩
    refine ct (f2 hh c22) ?_;refine xk ?_;refine rk [4,6,7,8,9,10,11] [] (f2 hh c22) fun h hh=>?_;exact rd m hh ⟨found2,(fi.wrap (k_+1)),x2,H3,kq hh,rfl⟩
   clear hh h;rintro h bs ⟨hh,rfl⟩;cases H2;exact ce hh ⟨kq hh,rfl⟩
  clear hh h;rintro h bs ⟨hh,rfl⟩;refine rk [4,6,7,8,9,10] [] hh fun h hh=>?_;exact rd m hh ⟨s_4.1,(fi.wrap (i+1)),s_4.2,H1,kq hh,rfl⟩
 clear hh h;rintro h bs ⟨hh,rfl⟩;apply fg;refine rk [4,5] [] hh fun h hh=>?_;cases H;exact rtc hh
def zbw (k:Nat) (t:List Rule) (m_:Merg) (ab:Pat×Bool):Nat->Int->(List Rule)->Nat->Option (List Rule×Nat)
 |0,_,_,_=>none
 |m+1,i,l,n=>(if i<(t.length:Int) then (if 0<=i/\i<(t.length:Int) then (((if i=m_.i then some true else some (decide (i=m_.k))):Option Bool).bind fun s_5=>(((if s_5=true then some (ab.1.mask,ab.1.bits) else some (((gx t i).mat).mask,((gx t i).mat).bits)):Option (Ar 10×Ar 10)).bind fun s_6=>(if m_.kind=2 then (if i=m_.k then zbw k t m_ ab m (fi.wrap (i+1)) l n else (if (n+1)*201<=1000000000 then zbw k t m_ ab m (fi.wrap (i+1)) (l++[(⟨(gx t i).prio,(⟨s_6.1,s_6.2⟩:Pat),(gx t i).step,(gx t i).outs⟩:Rule)]) (n+1) else none)) else (if m_.kind=3 then (if i=m_.i then zbw k t m_ ab m (fi.wrap (i+1)) l n else (if (n+1)*201<=1000000000 then zbw k t m_ ab m (fi.wrap (i+1)) (l++[(⟨(gx t i).prio,(⟨s_6.1,s_6.2⟩:Pat),(gx t i).step,(gx t i).outs⟩:Rule)]) (n+1) else none)) else (if (n+1)*201<=1000000000 then zbw k t m_ ab m (fi.wrap (i+1)) (l++[(⟨(gx t i).prio,(⟨s_6.1,s_6.2⟩:Pat),(gx t i).step,(gx t i).outs⟩:Rule)]) (n+1) else none))))) else none) else some (l,n))
def zk2 (k:Nat) (t:List Rule) (m_:Merg):Option (List Rule×Int):=(((if m_.i<0 then some true else some (decide ((t.length:Int)<=m_.i))):Option Bool).bind fun s_=>(if s_=true then some ([],1) else (if m_.kind=1 then (if m_.k≠0 then some ([],1) else ((zig k t [m_.i]).bind fun et=>some (et,0))) else (((if m_.kind≠2 then (if m_.kind≠3 then some true else (if m_.k<=m_.i then some true else some (decide ((t.length:Int)<=m_.k)))) else (if m_.k<=m_.i then some true else some (decide ((t.length:Int)<=m_.k)))):Option Bool).bind fun s_2=>(if s_2=true then some ([],1) else (if 0<=m_.i/\m_.i<(t.length:Int) then (if 0<=m_.k/\m_.k<(t.length:Int) then ((zk1 k (gx t m_.i) (gx t m_.k)).bind fun am=>((zmt k ((gx t m_.i).mat) ((gx t m_.k).mat)).bind fun ab=>(((if am=true then some (!ab.2) else some true):Option Bool).bind fun s_3=>(if s_3=true then some ([],1) else ((zbw k t m_ ab k 0 [] 0:Option (List Rule×Nat)).bind fun s_4=>(if s_4.1.length=s_4.2 then some (s_4.1,0) else none)))))) else none) else none))))))
theorem zrh (ax:Axs) (hx:NoAx ax) (k:Nat) (t:List Rule) (m_:Merg) (v:List Rule×Int) (H:zk2 k t m_=some v):Pure Try.prog (EE ax) [] 11 [zae t,zib m_] (tupT [zae v.1,.int .i64 v.2]):=by
 rw [zk2] at H;refine enN [.tmp 4,.tmp 5] 135 [0,1] (hx.no _ (by decide)) (fn11 ax) ?_;intro h hh;apply fg;refine rk [0,3] [] hh fun h hh=>?_;obtain ⟨s_,H1,H⟩:=zab H;repeat apply fg
 refine cu [0,3,21] 1 (fun h bs=>(h 0=zae t/\h 3=.ptr 0 0 3/\h 21=.bool s_)/\bs=[.cells true 3 [.int .i64 m_.kind,.int .i64 m_.i,.int .i64 m_.k]]) ?_ ?_
 .skip;rcases isp H1 with ⟨c1,H1⟩|⟨c1,H1⟩;rotate_left
  .skip;refine rk [0,3,21] [] (f2 hh (zAb c1)) fun h hh=>?_;cases H1;exact ce hh ⟨kq hh,rfl⟩
  refine rk [0,3,21] [] (f2 hh (zAa c1)) fun h hh=>?_;cases H1;exact ce hh ⟨kq hh,rfl⟩
 clear hh h;rintro h bs ⟨hh,rfl⟩;rcases isb H with ⟨c2,H⟩|⟨c2,H⟩;rotate_left
 .skip;refine cf (f2 hh c2) ?_;refine sk ?_;repeat apply fg
  refine rk [0,3,24] [] (f2 hh c2) fun h hh=>?_;rcases isp H with ⟨c3,H⟩|⟨c3,H⟩;rotate_left
  .skip;refine cf (f2 hh (zAb c3)) ?_;refine sk ?_;obtain ⟨s_2,H1,H⟩:=zab H;repeat apply fg
   refine cu [0,3,54] 1 (fun h bs=>(h 0=zae t/\h 3=.ptr 0 0 3/\h 54=.bool s_2)/\bs=[.cells true 3 [.int .i64 m_.kind,.int .i64 m_.i,.int .i64 m_.k]]) ?_ ?_
   .skip;rcases isp H1 with ⟨c6,H1⟩|⟨c6,H1⟩;rotate_left
    .skip;rcases isp H1 with ⟨c9,H1⟩|⟨c9,H1⟩;rotate_left
     .skip;refine rk [0,3,54] [] (f3 hh (zAb c6) (f2 (zAb c9) c2)) fun h hh=>?_;cases H1;exact ce hh ⟨kq hh,rfl⟩
     refine rk [0,3,54] [] (f3 hh (zAb c6) (f2 (zAa c9) c2)) fun h hh=>?_;cases H1;exact ce hh ⟨kq hh,rfl⟩
    rcases isp H1 with ⟨c7,H1⟩|⟨c7,H1⟩;rotate_left
    .skip;rcases isp H1 with ⟨c8,H1⟩|⟨c8,H1⟩;rotate_left
     .skip;refine rk [0,3,54] [] (f3 hh (zAa c6) (f3 (zAb c7) (zAb c8) c2)) fun h hh=>?_;cases H1;exact ce hh ⟨kq hh,rfl⟩
     refine rk [0,3,54] [] (f3 hh (zAa c6) (f3 (zAb c7) (zAa c8) c2)) fun h hh=>?_;cases H1;exact ce hh ⟨kq hh,rfl⟩
    refine rk [0,3,54] [] (f3 hh (zAa c6) (f2 (zAa c7) c2)) fun h hh=>?_;cases H1;exact ce hh ⟨kq hh,rfl⟩
   clear hh h;rintro h bs ⟨hh,rfl⟩;rcases isb H with ⟨c10,H⟩|⟨c10,H⟩;rotate_left
   .skip;refine cf (f2 hh c10) ?_;refine sk ?_;obtain ⟨g11,H⟩:=isg H;obtain ⟨g12,H⟩:=isg H;obtain ⟨am,e13,H⟩:=zab H;apply fg;refine dk 10 [0,3,6] [] [] [(.bool am,stL [.cells true 3 [.int .i64 m_.kind,.int .i64 m_.i,.int .i64 m_.k]])] (f3 hh c2 (f3 c10 (zag g11) (zag g12))) trivial ?_ ?_
    .exact ⟨gd (i7 (zyy ax hx k (gx t m_.i) (gx t m_.k) am e13 ) (by first|rfl|simp only [c2,c10])),trivial⟩
    clear hh h;intro h hh;obtain ⟨ab,e14,H⟩:=zab H;apply fg;refine dk 12 [0,3,6,7,8] [] [] [(.tup [ePat ab.1,.bool ab.2],stL [.cells true 3 [.int .i64 m_.kind,.int .i64 m_.i,.int .i64 m_.k]])] (f3 hh c2 (f3 c10 (zag g11) (zag g12))) trivial ?_ ?_
    .exact ⟨gd (i7 (z0t ax hx k ((gx t m_.i).mat) ((gx t m_.k).mat) ab e14 ) (by first|rfl|simp only [c2,c10])),trivial⟩
    clear hh h;intro h hh;obtain ⟨s_3,H1,H⟩:=zab H;repeat apply fg
    refine cu [0,3,7,87] 2 (fun h bs=>(h 0=zae t/\h 3=.ptr 0 0 3/\h 7=.ptr 1 0 20/\h 87=.bool s_3)/\bs=[.cells true 3 [.int .i64 m_.kind,.int .i64 m_.i,.int .i64 m_.k],.cells true 20 (ab.1.mask.l.map (fh .i64)++(ab.1.bits.l.map (fh .i64)))]) ?_ ?_
    .skip;rcases isb H1 with ⟨c15,H1⟩|⟨c15,H1⟩;rotate_left
     .skip;refine rk [0,3,7,87] [] (f3 hh c15 (f2 c2 c10)) fun h hh=>?_;cases H1;exact ce hh ⟨kq hh,rfl⟩
     refine rk [0,3,7,87] [] (f3 hh c15 (f2 c2 c10)) fun h hh=>?_;cases H1;exact ce hh ⟨kq hh,rfl⟩
    clear hh h;rintro h bs ⟨hh,rfl⟩;rcases isb H with ⟨c16,H⟩|⟨c16,H⟩;rotate_left
    .skip;refine cf (f2 hh c16) ?_;refine sk ?_;apply fg;refine rk [0,3,7,9] [] (f3 hh c2 (f2 c10 c16)) fun h hh=>?_;refine vk 9 23 [0,3,7,9] hh fun h hh=>?_;repeat apply fg
     refine rk [0,3,7,9,10] [] (f3 hh c2 (f2 c10 c16)) fun h hh=>?_;obtain ⟨s_4,H1,H⟩:=zab H;refine cu [9] 3 (fun h bs=>(h 9=.arr 2 23 0 s_4.2 s_4.2 (s_4.2*23))/\bs=[.cells true 3 [.int .i64 m_.kind,.int .i64 m_.i,.int .i64 m_.k],.cells true 20 (ab.1.mask.l.map (fh .i64)++(ab.1.bits.l.map (fh .i64))),.cells false (s_4.2*23) (vecC zaj s_4.1)]) ?_ ?_
     .skip;apply gl;refine jj [0,3,7,9,10] (fun m h bs=>∃ (i:Int) (l:List Rule) (n:Nat),zbw k t m_ ab m i l n=some s_4/\(h 0=zae t/\h 3=.ptr 0 0 3/\h 7=.ptr 1 0 20/\h 9=.arr 2 23 0 n n (n*23)/\h 10=.int .i64 i)/\bs=[.cells true 3 [.int .i64 m_.kind,.int .i64 m_.i,.int .i64 m_.k],.cells true 20 (ab.1.mask.l.map (fh .i64)++(ab.1.bits.l.map (fh .i64))),.cells false (n*23) (vecC zaj l)]) ?_ k _ _ ?_;rotate_left
      .exact ⟨0,[],0,H1,kq hh,rfl⟩
      clear hh h H1;rintro m h bs ⟨i,l,n,H1,hh,rfl⟩;rcases m with _|m
      .rw [zbw] at H1;cases H1
      rw [zbw] at H1;repeat apply fg
      refine rk [0,3,7,9,10,91] [] (f3 hh c2 (f2 c10 c16)) fun h hh=>?_;rcases isp H1 with ⟨c17,H1⟩|⟨c17,H1⟩;rotate_left
      .skip;refine cf (f2 hh (zAb c17)) ?_;refine xk ?_;cases H1;exact ce hh ⟨kq hh,rfl⟩
      refine ct (f2 hh (zAa c17)) ?_;refine sk ?_;apply fg;apply gl;obtain ⟨g18,H1⟩:=isg H1;apply fg;refine rk [0,3,7,9,10,11] [] (f3 hh c2 (f3 c10 c16 (zag g18))) fun h hh=>?_;obtain ⟨s_5,H2,H1⟩:=zab H1;repeat apply fg
      refine cu [0,3,7,9,10,11,107] 4 (fun h bs=>(h 0=zae t/\h 3=.ptr 0 0 3/\h 7=.ptr 1 0 20/\h 9=.arr 2 23 0 n n (n*23)/\h 10=.int .i64 i/\h 11=.ptr 3 0 23/\h 107=.bool s_5)/\bs=[.cells true 3 [.int .i64 m_.kind,.int .i64 m_.i,.int .i64 m_.k],.cells true 20 (ab.1.mask.l.map (fh .i64)++(ab.1.bits.l.map (fh .i64))),.cells false (n*23) (vecC zaj l),.cells true 23 (fh .i64 ((gx t i).prio) :: ((((gx t i).mat).mask).l.map (fh .i64)++((((gx t i).mat).bits).l.map (fh .i64)++[fh .i64 ((gx t i).step),za3 ((gx t i).outs)])))]) ?_ ?_
      .skip;rcases isp H2 with ⟨c19,H2⟩|⟨c19,H2⟩;rotate_left
       .skip;refine rk [0,3,7,9,10,11,107] [] (f3 hh (zAb c19) (f3 c2 c10 c16)) fun h hh=>?_;cases H2;exact ce hh ⟨kq hh,rfl⟩
       refine rk [0,3,7,9,10,11,107] [] (f3 hh (zAa c19) (f3 c2 c10 c16)) fun h hh=>?_;cases H2;exact ce hh ⟨kq hh,rfl⟩
      clear hh h;rintro h bs ⟨hh,rfl⟩;obtain ⟨s_6,H2,H1⟩:=zab H1;refine cu [0,3,7,9,10,11] 4 (fun h bs=>(h 0=zae t/\h 3=.ptr 0 0 3/\h 7=.ptr 1 0 20/\h 9=.arr 2 23 0 n n (n*23)/\h 10=.int .i64 i/\h 11=.ptr 3 0 23)/\bs=[.cells true 3 [.int .i64 m_.kind,.int .i64 m_.i,.int .i64 m_.k],.cells true 20 (ab.1.mask.l.map (fh .i64)++(ab.1.bits.l.map (fh .i64))),.cells false (n*23) (vecC zaj l),.cells true 23 (fh .i64 ((gx t i).prio) :: (s_6.1.l.map (fh .i64)++(s_6.2.l.map (fh .i64)++[fh .i64 ((gx t i).step),za3 ((gx t i).outs)])))]) ?_ ?_
      .skip;rcases isb H2 with ⟨c20,H2⟩|⟨c20,H2⟩;rotate_left
       .skip;refine cf (f2 hh c20) ?_;refine sk ?_;cases H2;exact ce hh ⟨kq hh,rfl⟩
       refine ct (f2 hh c20) ?_;refine rk [0,3,7,9,10,11] [] (f3 hh c2 (f3 c10 c16 c20)) fun h hh=>?_;cases H2;exact ce hh ⟨kq hh,rfl⟩
      clear hh h;rintro h bs ⟨hh,rfl⟩;rcases isp H1 with ⟨c21,H1⟩|⟨c21,H1⟩;rotate_left
      .skip;rcases isp H1 with ⟨c25,H1⟩|⟨c25,H1⟩;rotate_left
       .skip;repeat apply fg
        refine rk [0,3,7,9,10,11,129] [] (f3 hh (zAb c21) (f3 (zAb c25) c2 (f2 c10 c16))) fun h hh=>?_;refine cf hh ?_;refine sk ?_;obtain ⟨g28,H1⟩:=isg H1;refine rg [] [] [.cells true 3 [.int .i64 m_.kind,.int .i64 m_.i,.int .i64 m_.k],.cells true 20 (ab.1.mask.l.map (fh .i64)++(ab.1.bits.l.map (fh .i64))),.cells false ((n+1)*23) (vecC zaj (l++[(⟨(gx t i).prio,(⟨s_6.1,s_6.2⟩:Pat),(gx t i).step,(gx t i).outs⟩:Rule)])),.cells true 23 (fh .i64 ((gx t i).prio) :: (s_6.1.l.map (fh .i64)++(s_6.2.l.map (fh .i64)++[fh .i64 ((gx t i).step),za3 ((gx t i).outs)])))] (fun h=>h 0=zae t/\h 3=.ptr 0 0 3/\h 7=.ptr 1 0 20/\h 9=.arr 2 23 0 (n+1) (n+1) ((n+1)*23)/\h 10=.int .i64 i) (f3 hh c2 (f3 c10 c16 ((show vecC zaj [(⟨(gx t i).prio,(⟨s_6.1,s_6.2⟩:Pat),(gx t i).step,(gx t i).outs⟩:Rule)]=(fh .i64 ((⟨(gx t i).prio,(⟨s_6.1,s_6.2⟩:Pat),(gx t i).step,(gx t i).outs⟩:Rule).prio) :: ((((⟨(gx t i).prio,(⟨s_6.1,s_6.2⟩:Pat),(gx t i).step,(gx t i).outs⟩:Rule).mat).mask).l.map (fh .i64)++((((⟨(gx t i).prio,(⟨s_6.1,s_6.2⟩:Pat),(gx t i).step,(gx t i).outs⟩:Rule).mat).bits).l.map (fh .i64)++[fh .i64 ((⟨(gx t i).prio,(⟨s_6.1,s_6.2⟩:Pat),(gx t i).step,(gx t i).outs⟩:Rule).step),za3 ((⟨(gx t i).prio,(⟨s_6.1,s_6.2⟩:Pat),(gx t i).step,(gx t i).outs⟩:Rule).outs)]))) from zdk.trans rfl)))) trivial fun h hh=>?_;refine rk [0,3,7,9,10] [] (f3 hh c2 (f2 c10 c16)) fun h hh=>?_;exact rd m hh ⟨(fi.wrap (i+1)),(l++[(⟨(gx t i).prio,(⟨s_6.1,s_6.2⟩:Pat),(gx t i).step,(gx t i).outs⟩:Rule)]),(n+1),H1,kq hh,rfl⟩
       repeat apply fg
       refine rk [0,3,7,9,10,11,129] [] (f3 hh (zAb c21) (f3 (zAa c25) c2 (f2 c10 c16))) fun h hh=>?_;rcases isp H1 with ⟨c26,H1⟩|⟨c26,H1⟩;rotate_left
       .skip;refine cf (f2 hh (zAb c26)) ?_;refine sk ?_;obtain ⟨g27,H1⟩:=isg H1;refine rg [] [] [.cells true 3 [.int .i64 m_.kind,.int .i64 m_.i,.int .i64 m_.k],.cells true 20 (ab.1.mask.l.map (fh .i64)++(ab.1.bits.l.map (fh .i64))),.cells false ((n+1)*23) (vecC zaj (l++[(⟨(gx t i).prio,(⟨s_6.1,s_6.2⟩:Pat),(gx t i).step,(gx t i).outs⟩:Rule)])),.cells true 23 (fh .i64 ((gx t i).prio) :: (s_6.1.l.map (fh .i64)++(s_6.2.l.map (fh .i64)++[fh .i64 ((gx t i).step),za3 ((gx t i).outs)])))] (fun h=>h 0=zae t/\h 3=.ptr 0 0 3/\h 7=.ptr 1 0 20/\h 9=.arr 2 23 0 (n+1) (n+1) ((n+1)*23)/\h 10=.int .i64 i) (f3 hh c2 (f3 c10 c16 ((show vecC zaj [(⟨(gx t i).prio,(⟨s_6.1,s_6.2⟩:Pat),(gx t i).step,(gx t i).outs⟩:Rule)]=(fh .i64 ((⟨(gx t i).prio,(⟨s_6.1,s_6.2⟩:Pat),(gx t i).step,(gx t i).outs⟩:Rule).prio) :: ((((⟨(gx t i).prio,(⟨s_6.1,s_6.2⟩:Pat),(gx t i).step,(gx t i).outs⟩:Rule).mat).mask).l.map (fh .i64)++((((⟨(gx t i).prio,(⟨s_6.1,s_6.2⟩:Pat),(gx t i).step,(gx t i).outs⟩:Rule).mat).bits).l.map (fh .i64)++[fh .i64 ((⟨(gx t i).prio,(⟨s_6.1,s_6.2⟩:Pat),(gx t i).step,(gx t i).outs⟩:Rule).step),za3 ((⟨(gx t i).prio,(⟨s_6.1,s_6.2⟩:Pat),(gx t i).step,(gx t i).outs⟩:Rule).outs)]))) from zdk.trans rfl)))) trivial fun h hh=>?_;refine rk [0,3,7,9,10] [] (f3 hh c2 (f2 c10 c16)) fun h hh=>?_;exact rd m hh ⟨(fi.wrap (i+1)),(l++[(⟨(gx t i).prio,(⟨s_6.1,s_6.2⟩:Pat),(gx t i).step,(gx t i).outs⟩:Rule)]),(n+1),H1,kq hh,rfl⟩
       refine ct (f2 hh (zAa c26)) ?_;refine xk ?_;refine rk [0,3,7,9,10] [] (f3 hh c2 (f2 c10 c16)) fun h hh=>?_;exact rd m hh ⟨(fi.wrap (i+1)),l,n,H1,kq hh,rfl⟩
      rcases isp H1 with ⟨c22,H1⟩|⟨c22,H1⟩;rotate_left
      .skip;repeat apply fg
       refine rk [0,3,7,9,10,11,129] [] (f3 hh (zAa c21) (f3 (zAb c22) (zAb (p:=m_.kind=3) (by omega)) (f3 c2 c10 c16))) fun h hh=>?_;refine cf hh ?_;refine sk ?_;obtain ⟨g24,H1⟩:=isg H1;refine rg [] [] [.cells true 3 [.int .i64 m_.kind,.int .i64 m_.i,.int .i64 m_.k],.cells true 20 (ab.1.mask.l.map (fh .i64)++(ab.1.bits.l.map (fh .i64))),.cells false ((n+1)*23) (vecC zaj (l++[(⟨(gx t i).prio,(⟨s_6.1,s_6.2⟩:Pat),(gx t i).step,(gx t i).outs⟩:Rule)])),.cells true 23 (fh .i64 ((gx t i).prio) :: (s_6.1.l.map (fh .i64)++(s_6.2.l.map (fh .i64)++[fh .i64 ((gx t i).step),za3 ((gx t i).outs)])))] (fun h=>h 0=zae t/\h 3=.ptr 0 0 3/\h 7=.ptr 1 0 20/\h 9=.arr 2 23 0 (n+1) (n+1) ((n+1)*23)/\h 10=.int .i64 i) (f3 hh c2 (f3 c10 c16 ((show vecC zaj [(⟨(gx t i).prio,(⟨s_6.1,s_6.2⟩:Pat),(gx t i).step,(gx t i).outs⟩:Rule)]=(fh .i64 ((⟨(gx t i).prio,(⟨s_6.1,s_6.2⟩:Pat),(gx t i).step,(gx t i).outs⟩:Rule).prio) :: ((((⟨(gx t i).prio,(⟨s_6.1,s_6.2⟩:Pat),(gx t i).step,(gx t i).outs⟩:Rule).mat).mask).l.map (fh .i64)++((((⟨(gx t i).prio,(⟨s_6.1,s_6.2⟩:Pat),(gx t i).step,(gx t i).outs⟩:Rule).mat).bits).l.map (fh .i64)++[fh .i64 ((⟨(gx t i).prio,(⟨s_6.1,s_6.2⟩:Pat),(gx t i).step,(gx t i).outs⟩:Rule).step),za3 ((⟨(gx t i).prio,(⟨s_6.1,s_6.2⟩:Pat),(gx t i).step,(gx t i).outs⟩:Rule).outs)]))) from zdk.trans rfl)))) trivial fun h hh=>?_;refine rk [0,3,7,9,10] [] (f3 hh c2 (f2 c10 c16)) fun h hh=>?_;exact rd m hh ⟨(fi.wrap (i+1)),(l++[(⟨(gx t i).prio,(⟨s_6.1,s_6.2⟩:Pat),(gx t i).step,(gx t i).outs⟩:Rule)]),(n+1),H1,kq hh,rfl⟩
      repeat apply fg
      refine rk [0,3,7,9,10,11,129] [] (f3 hh (zAa c21) (f3 (zAa c22) c2 (f2 c10 c16))) fun h hh=>?_;refine ct hh ?_;refine xk ?_;refine rk [0,3,7,9,10] [] (f3 hh c2 (f2 c10 c16)) fun h hh=>?_;exact rd m hh ⟨(fi.wrap (i+1)),l,n,H1,kq hh,rfl⟩
     clear hh h;rintro h bs ⟨hh,rfl⟩;apply fg;refine rk [4,5] [] (f3 hh c2 (f2 c10 c16)) fun h hh=>?_;obtain ⟨g29,H⟩:=isg H;refine TW.freeze 4 (b:=2) (e:=23) (off:=0) (len:=s_4.2) (cap:=s_4.2) (M:=(s_4.2*23)) (s_4.1.map zaj) (kq hh) (by rfl) (by omega) (by omega) (by rw [gp];exact zc5 (fun x=>zau x) g29) (fun t ht=>by obtain ⟨x,_,rfl⟩:=jo.1 ht;first|rfl|exact zf6 _|exact za1 _|exact zd0 _|exact zau _ | (rw [fq];rfl)) (by rw [fq]<;>exact g29) (by omega) ?_;rw [zec _ _ _ (by simp only [lzA]<;>omega)];simp only [scA];refine gk [4,5] hh fun h hh=>?_;cases H;exact rt hh
    refine ct (f2 hh c16) ?_;apply fg;refine rk [4,5] [] (f3 hh c2 (f2 c10 c16)) fun h hh=>?_;refine nk 4 23 [4,5] hh fun h hh=>?_;cases H;exact rt hh
   refine ct (f2 hh c10) ?_;apply fg;refine rk [4,5] [] (f3 hh c2 c10) fun h hh=>?_;refine nk 4 23 [4,5] hh fun h hh=>?_;cases H;exact rt hh
  refine ct (f2 hh (zAa c3)) ?_;repeat apply fg
  refine rk [0,3,27] [] (f2 hh c2) fun h hh=>?_;rcases isp H with ⟨c4,H⟩|⟨c4,H⟩;rotate_left
  .skip;refine cf (f2 hh (zAb c4)) ?_;refine sk ?_;obtain ⟨et,e5,H⟩:=zab H;apply fg;refine rkp [4,5] [] [zae et] (f2 hh c2) ?_ ?_
   .exact ⟨gd (i7 (ztc ax hx k t [m_.i] et e5 ) (by first|rfl|simp only [c2])),trivial⟩
   clear hh h;intro h hh;cases H;exact rt hh
  refine ct (f2 hh (zAa c4)) ?_;apply fg;refine rk [4,5] [] (f2 hh c2) fun h hh=>?_;refine nk 4 23 [4,5] hh fun h hh=>?_;cases H;exact rt hh
 refine ct (f2 hh c2) ?_;apply fg;refine rk [4,5] [] (f2 hh c2) fun h hh=>?_;refine nk 4 23 [4,5] hh fun h hh=>?_;cases H;exact rt hh
def zk3 (k:Nat) (t:List Rule) (m_:Merg):Option (List Rule×Int):=((zk2 k t m_).bind fun ab=>(if ab.2≠0 then some ([],ab.2) else ((zjf k t ab.1).bind fun br=>(if br.2=true then some (ab.1,0) else some ([],7)))))
theorem zyz (ax:Axs) (hx:NoAx ax) (k:Nat) (t:List Rule) (m_:Merg) (v:List Rule×Int) (H:zk3 k t m_=some v):Pure Try.prog (EE ax) [] 13 [zae t,zib m_] (tupT [zae v.1,.int .i64 v.2]):=by
 rw [zk3] at H;refine enN [.tmp 4,.tmp 5] 28 [0,1] (hx.no _ (by decide)) (fn13 ax) ?_;intro h hh;apply fg;refine rk [0,3] [] hh fun h hh=>?_;obtain ⟨ab,e1,H⟩:=zab H;apply fg;refine rkp [0,6,7] [] [.tup [zae ab.1,.int .i64 ab.2]] hh ?_ ?_
 .exact ⟨gd ((zrh ax hx k t m_ ab e1 ).call _),trivial⟩
 clear hh h;intro h hh;repeat apply fg
 refine rk [0,6,7,17] [] hh fun h hh=>?_;rcases isp H with ⟨c2,H⟩|⟨c2,H⟩;rotate_left
 .skip;refine cf (f2 hh (zAb c2)) ?_;refine sk ?_;obtain ⟨br,e3,H⟩:=zab H;apply fg;refine rkc [6,9] [] [(.tup [.agg (br.1.l.map (fh .i64)),.bool br.2],stL [.cells true 3 [.int .i64 m_.kind,.int .i64 m_.i,.int .i64 m_.k]])] hh ?_ ?_
  .exact ⟨gd ((zy1 ax hx k t ab.1 br e3 ).call _),trivial⟩
  clear hh h;intro h hh;repeat apply fg
  refine rk [6,26] [] hh fun h hh=>?_;rcases isb H with ⟨c4,H⟩|⟨c4,H⟩;rotate_left
  .skip;refine ct (f2 hh c4) ?_;apply fg;refine rk [4,5] [] (f2 hh c4) fun h hh=>?_;refine nk 4 23 [4,5] hh fun h hh=>?_;cases H;exact rt hh
  refine cf (f2 hh c4) ?_;refine sk ?_;apply fg;refine rk [4,5] [] (f2 hh c4) fun h hh=>?_;cases H;exact rt hh
 refine ct (f2 hh (zAa c2)) ?_;apply fg;refine rk [4,5] [] hh fun h hh=>?_;refine nk 4 23 [4,5] hh fun h hh=>?_;cases H;exact rt hh
def zpj (k:Nat) (n:Net) (t:List Rule) (most:Int):Option Bool:=(((if 20<(n.nodes.length:Int) then some true else (if 60<(n.links.length:Int) then some true else some (decide (20<(n.edges.length:Int))))):Option Bool).bind fun s_=>(if s_=true then some false else ((zpb k t most).bind fun cb=>(if cb=true then ((zk7 k n).bind fun ay=>(if ay≠0 then some false else ((zjg k n 1000 t).bind fun bz=>((zk5 k t).bind fun eu=>(if bz.2=0 then some eu else some false))))) else some false))))
theorem z30 (ax:Axs) (hx:NoAx ax) (k:Nat) (n:Net) (t:List Rule) (most:Int) (v:Bool) (H:zpj k n t most=some v):Pure Try.prog (EE ax) [] 8 [eNet n,zae t,.int .i64 most] (.bool v):=by
 rw [zpj] at H;refine en [.tmp 6] 50 [0,1,2] (hx.no _ (by decide)) (fn8 ax) ?_;intro h hh;apply fg;refine rk [1,2,3] [] hh fun h hh=>?_;obtain ⟨s_,H1,H⟩:=zab H;repeat apply fg
 refine cu [1,2,3,27] 1 (fun h bs=>(h 1=zae t/\h 2=.int .i64 most/\h 3=.ptr 0 0 3/\h 27=.bool s_)/\bs=[.cells true 3 [zgd n.nodes,zge n.links,zgf n.edges]]) ?_ ?_
 .skip;rcases isp H1 with ⟨c1,H1⟩|⟨c1,H1⟩;rotate_left
  .skip;rcases isp H1 with ⟨c2,H1⟩|⟨c2,H1⟩;rotate_left
   .skip;refine rk [1,2,3,27] [] (f3 hh (zAb c1) (zAb c2)) fun h hh=>?_;cases H1;exact ce hh ⟨kq hh,rfl⟩
   refine rk [1,2,3,27] [] (f3 hh (zAb c1) (zAa c2)) fun h hh=>?_;cases H1;exact ce hh ⟨kq hh,rfl⟩
  refine rk [1,2,3,27] [] (f2 hh (zAa c1)) fun h hh=>?_;cases H1;exact ce hh ⟨kq hh,rfl⟩
 clear hh h;rintro h bs ⟨hh,rfl⟩;rcases isb H with ⟨c3,H⟩|⟨c3,H⟩;rotate_left
 .skip;refine cf (f2 hh c3) ?_;refine sk ?_;obtain ⟨cb,e4,H⟩:=zab H;apply fg;refine rkp [1,3,7] [] [.bool cb] (f2 hh c3) ?_ ?_
  .exact ⟨gd (i7 (z3x ax hx k t most cb e4 ) (by first|rfl|simp only [c3])),trivial⟩
  clear hh h;intro h hh;repeat apply fg
  refine rk [1,3,32] [] (f2 hh c3) fun h hh=>?_;rcases isb H with ⟨c5,H⟩|⟨c5,H⟩;rotate_left
  .skip;refine ct (f2 hh c5) ?_;apply fg;refine rk [6] [] (f3 hh c3 c5) fun h hh=>?_;cases H;exact rt hh
  refine cf (f2 hh c5) ?_;refine sk ?_;obtain ⟨ay,e6,H⟩:=zab H;apply fg;refine rkp [1,3,8] [] [.int .i64 ay] (f3 hh c3 c5) ?_ ?_
  .exact ⟨gd (i7 (zy3 ax hx k n ay e6 ) (by first|rfl|simp only [c3,c5])),trivial⟩
  clear hh h;intro h hh;repeat apply fg
  refine rk [1,3,36] [] (f3 hh c3 c5) fun h hh=>?_;rcases isp H with ⟨c7,H⟩|⟨c7,H⟩;rotate_left
  .skip;refine cf (f2 hh (zAb c7)) ?_;refine sk ?_;obtain ⟨bz,e8,H⟩:=zab H;apply fg;refine rkp [1,10] [] [.tup [.int .i64 bz.1,.int .i64 bz.2]] (f3 hh c3 c5) ?_ ?_
   .exact ⟨gd (i7 (zpc ax hx k n 1000 t bz e8 ) (by first|rfl|simp only [c3,c5])),trivial⟩
   clear hh h;intro h hh;obtain ⟨eu,e9,H⟩:=zab H;apply fg;refine rkp [10,11] [] [.bool eu] (f3 hh c3 c5) ?_ ?_
   .exact ⟨gd (i7 (zy0 ax hx k t eu e9 ) (by first|rfl|simp only [c3,c5])),trivial⟩
   clear hh h;intro h hh;rcases isp H with ⟨c10,H⟩|⟨c10,H⟩;rotate_left
   .skip;apply fg;refine rk [6] [] (f3 hh (zAb c10) (f2 c3 c5)) fun h hh=>?_;cases H;exact rt hh
   apply fg;refine rk [6] [] (f3 hh (zAa c10) (f2 c3 c5)) fun h hh=>?_;cases H;exact rt hh
  refine ct (f2 hh (zAa c7)) ?_;apply fg;refine rk [6] [] (f3 hh c3 c5) fun h hh=>?_;cases H;exact rt hh
 refine ct (f2 hh c3) ?_;apply fg;refine rk [6] [] (f2 hh c3) fun h hh=>?_;cases H;exact rt hh
theorem ymy {k:Nat} (hk:9223372036854775808<=k) (n:Net) (h1:n.nodes.length<=20) (h2:n.links.length<=60) (h3:n.edges.length<=20) (hh:Held n):∃ r,zk7 k n=some r:=by
  unfold zk7;rw [zAd (by omega),zAd (by omega),ff,zAd (by simp only [decide_eq_true_eq];omega)];obtain ⟨l1,a1,a2,a3⟩:=yhp k n (by omega) hh.nodes k 0 [] (by omega) (by omega) rfl (fun s hs=>by simp at hs);obtain ⟨l2,b1,b2,b3⟩:=yho k n (by omega) hh.edges k 0 [] (by omega) (by omega) rfl (fun s hs=>by simp at hs);obtain ⟨r1,c1⟩:=z1v hk l1 (by omega) a3;obtain ⟨r2,c2⟩:=z1v hk l2 (by omega) b3;obtain ⟨d1,e1,g1⟩:=yo4 k n (by omega) k 0 (by omega) (by omega);obtain ⟨d2,e2,g2⟩:=yo3 k n (by omega) k 0 (by omega) (by omega) (fun j hj=>by omega);obtain ⟨d3,e3,g3⟩:=yo2 k n (by omega) k 0 (by omega) (by omega);rw [show ((0:Nat):Int)=0 from rfl] at a1 b1 e1 e2 e3
  have hN:zk6 k n=some (l1,l2):=by
    unfold zk6;rw [a1,b1];simp
  rw [hN,ff];simp only [c1,c2,ff,e1,e2,e3]
  cases r1 with
  |false=>exact ⟨4,rfl⟩
  |true =>
    cases r2 with
    |false=>exact ⟨4,rfl⟩
    |true =>
      rcases g1 with rfl|rfl
      . rcases g2 with ⟨rfl,hall⟩|rfl
        . rcases g3 with rfl|rfl
          . exact ⟨0,rfl⟩
          . exact ⟨1,rfl⟩
        . exact ⟨1,rfl⟩
      . exact ⟨1,rfl⟩
theorem yg7 {t:List Rule} {most:Int} (h:fewT t most=true):(t.length:Int)<=most:=by
  unfold fewT at h;rw [fj] at h;exact zAe h.2
theorem ylg {k:Nat} (hk:big<=k) (n:Net) (hn:Held n) (t:List Rule) (ht:zko t) (most:Int) (hm:most<=1000) :
    ∃ b,zpj k n t most=some b/\(b=true->(t.length:Int)<=most/\(znl n 1000 t).2=0/\∃ F,Lit t F):=by
  unfold zpj;by_cases q1:20<(n.nodes.length:Int)
  . rw [zAc q1,ff,zAc rfl];exact ⟨_,rfl,fun h=>by cases h⟩
  by_cases q2:60<(n.links.length:Int)
  . rw [zAd q1,zAc q2,ff,zAc rfl];exact ⟨_,rfl,fun h=>by cases h⟩
  by_cases q3:20<(n.edges.length:Int)
  . rw [zAd q1,zAd q2,ff,zAc (zAa q3)];exact ⟨_,rfl,fun h=>by cases h⟩
  rw [zAd q1,zAd q2,ff,zAd (by simpa using q3),ylh t most ht hk,ff]
  cases hf:fewT t most with
  |false=>rw [zAd (by simp)];exact ⟨_,rfl,fun h=>by cases h⟩
  |true =>
    have hlen:=yg7 hf;obtain ⟨r,e⟩:=ymy hk n (by omega) (by omega) (by omega) hn;rw [zAc rfl,e,ff];by_cases q4:r=0
    . obtain ⟨b,eb,hb⟩:=ycb (k:=k) (t:=t) (by omega) hk;rw [zAd (fun h=>h q4),z1a n 1000 t ht hk,ff,eb,ff];by_cases q5:(znl n 1000 t).2=0
      . rw [zAc q5];exact ⟨b,rfl,fun h=>⟨hlen,q5,hb h⟩⟩
      . rw [zAd q5];exact ⟨_,rfl,fun h=>by cases h⟩
    . rw [zAc q4];exact ⟨_,rfl,fun h=>by cases h⟩
def hR (k:Nat) (t:List Rule) (i:Nat):Ar 10×Bool:=(z0r k t (i:Int)).getD (zA 10,false)
def keepI (f:Nat->Bool) (i:Nat):List Int:=((kg i).filter f).map fun j:Nat=>(j:Int)
def gone (k:Nat) (t:List Rule):List Int:=keepI (fun j=>!(hR k t j).2) t.length
def woI (t:List Rule) (l:List Int) (i:Nat):List Rule:=((kg i).filter fun j:Nat=>!decide ((j:Int)∈l)).map fun j:Nat=>t.getD j default
def wo (t:List Rule) (l:List Int):List Rule:=woI t l t.length
theorem zyo {t:List Rule} {l:List Int} {i:Nat} (hi:i<t.length):woI t l (i+1)=if (i:Int)∈l then woI t l i else woI t l i++[t[i]]:=by
  unfold woI;rw [List.range_succ,List.filter_append,List.map_append];have e:t.getD i default=t[i]:=by rw [fo,fk hi];rfl
  by_cases h:(i:Int)∈l
  . rw [zAc h];simp [List.filter,h]
  . rw [zAd h];simp [List.filter,h,fk hi]
theorem yan (t:List Rule) (l:List Int) (i:Nat):(woI t l i).length<=i:=by
  unfold woI;rw [fq];exact jv (nj _ _) (by rw [qv];exact fp _)
theorem yd9 {k:Nat} (l:List Int) (v:Int) (hl:l.length<=1000) (hk:big<=k):zbo k l v k false 0=some (decide (v∈l)):=by
  have key:∀ m i (d:Bool),i<=l.length->l.length - i<m->zbo k l v m d (i:Int)=some (d || (l.drop i).any fun x=>decide (x=v)):=by
    intro m
    induction m with
    |zero=>intro i d h1 h2;omega
    |succ m ih =>
      intro i d h1 h2;rw [zbo];by_cases c:i<l.length
      . rw [zAc (zaq c),za4 i (by omega),ko c,List.any_cons]
        cases d with
        |true=>rw [zAc rfl,ih (i+1) true (by omega) (by omega)];simp
        |false=>rw [zAd (by simp),zAc ⟨by omega,zaq c⟩,zd8 c,ih (i+1) _ (by omega) (by omega)];simp
      . obtain rfl:i=l.length:=by omega
        rw [zAd (by omega),List.drop_length];simp
  have:=key k 0 false (ir _) (by simp only [big] at hk;omega);rw [gp,Bool.false_or] at this;change zbo k l v k false 0=_ at this;rw [this];congr 1;rw [ku];simp only [List.any_eq_true,decide_eq_true_eq];exact ⟨fun ⟨x,hx,e⟩=>e ▸ hx,fun h=>⟨v,h,rfl⟩⟩
theorem z4c {k:Nat} (t:List Rule) (l:List Int) (ht:t.length<=1000) (hl:l.length<=1000) (hk:big<=k):zig k t l=some (wo t l):=by
  have key:∀ m i,i<=t.length->t.length - i<m->zcz k t l m (i:Int) (woI t l i) (woI t l i).length=some (wo t l,(wo t l).length):=by
    intro m
    induction m with
    |zero=>intro i h1 h2;omega
    |succ m ih =>
      intro i h1 h2;rw [zcz];by_cases c:i<t.length
      . have hn:=yan t l i;have hs:=zyo (l:=l) c;have:=ih (i+1) (by omega) (by omega);rw [hs] at this;rw [zAc (zaq c),yd9 l _ hl hk,ff,zd8 c,za4 i (by omega)];by_cases hb:(i:Int)∈l
        . rw [zAc hb] at this;rw [zAc (zAa hb),ff];exact this
        . rw [zAd hb,fx,ip] at this;rw [zAd (by rw [decide_eq_true_eq];exact hb),zAc ⟨by omega,zaq c⟩,zAc (by omega),ff];exact this
      . obtain rfl:i=t.length:=by omega
        rw [zAd (by omega)];rfl
  have:=key k 0 (ir _) (by simp only [big] at hk;omega);unfold zig;change zcz k t l k 0 [] 0=_ at this;rw [this,ff,zAc rfl]
theorem zrb {k:Nat} {a b:Ar 10} (ha:zac a=true) (hb:zac b=true) (hk:10<k):∃ c,zdy k a b=some c/\Cmp a b c:=by
  have key:∀ m j,j<=10->10 - j<m->(∀ i,i<j->hw a i=hw b i)->∃ o,zbd k a.l b.l m (j:Int)=some o/\((∃ c,o=.inl c/\Cmp a b c)\/(o=.inr ()/\a=b)):=by
    intro m
    induction m with
    |zero=>intro j h1 h2;omega
    |succ m ih =>
      intro j h1 h2 h3;rw [zbd,a.h,b.h];by_cases c:j<10
      . obtain ⟨a1,a2⟩:=zbf ha c;obtain ⟨b1,b2⟩:=zbf hb c;rw [zAc (by omega),zAc ⟨by omega,by omega⟩,zAd (by omega),zAc ⟨by omega,by omega⟩,a1,b1,za4 j (by omega)]
        have ec:zfa k (hw a j:Int) (hw b j:Int)=some (if hw a j<hw b j then -1 else if hw b j<hw a j then 1 else 0):=by
          unfold zfa zgs;simp only [ff,ne_eq,not_true_eq_false,decide_false,Bool.false_eq_true,if_false];by_cases c1:hw a j<hw b j
          . rw [zAc (zaq c1),zAc c1]
          . rw [zAd (by omega),zAd c1];by_cases c2:hw b j<hw a j
            . rw [zAc (zaq c2),zAc c2]
            . rw [zAd (by omega),zAd c2]
        rw [ec,ff];by_cases c1:hw a j<hw b j
        . rw [zAc c1,zAc (by decide)];exact ⟨_,rfl,.inl ⟨_,rfl,.inl ⟨rfl,zpv ha hb c h3 c1⟩⟩⟩
        . rw [zAd c1];by_cases c2:hw b j<hw a j
          . rw [zAc c2,zAc (by decide)];exact ⟨_,rfl,.inl ⟨_,rfl,.inr (.inl ⟨rfl,zpv hb ha c (fun i hi=>(h3 i hi).symm) c2⟩)⟩⟩
          . rw [zAd c2,zAd (by decide)]
            exact ih (j+1) (by omega) (by omega) fun i hi=>by
              by_cases e:i<j
              . exact h3 i e
              . obtain rfl:i=j:=by omega
                omega
      . obtain rfl:j=10:=by omega
        rw [zAd (by decide)];refine ⟨_,rfl,.inr ⟨rfl,zn6 ha hb fun i hi=>?_⟩⟩;unfold hbit;rw [h3 (i / 16) (by omega)]
  obtain ⟨o,e,h⟩:=key k 0 (by omega) (by omega) (fun i hi=>by omega);unfold zdy zeu;rw [show ((0:Nat):Int)=0 from rfl] at e;rw [e,ff];rcases h with ⟨c,rfl,h⟩|⟨rfl,h⟩
  . exact ⟨c,rfl,h⟩
  . rw [Sum.elim_inr,a.h,b.h,zAd (by decide)];exact ⟨0,rfl,.inr (.inr ⟨rfl,h⟩)⟩
theorem z8x {k:Nat} {p q:Pat} (hp:zaf p=true) (hq:zaf q=true) (hk:10<k):∃ r,zik k p q=some r/\((zdi p q=false/\r.2=false)\/(zdi p q=true/\r.2=true/\Meet p q r.1)):=by
  obtain ⟨pm,pb,pw⟩:=zah.1 hp;obtain ⟨qm,qb,qw⟩:=zah.1 hq
  have key:∀ (m i:Nat) (x y:Ar 10),i<=10->10 - i<m->(∀ s:Nat,s<10->gx x.l (s:Int)=((if s<i then hw p.mask s ||| hw q.mask s else hw p.mask s:Nat):Int)/\gx y.l (s:Int)=((if s<i then hw p.bits s ||| hw q.bits s else hw p.bits s:Nat):Int))->∃ x' y',zeq k q m (i:Int) x y=some (x',y')/\∀ s:Nat,s<10->gx x'.l (s:Int)=((hw p.mask s ||| hw q.mask s:Nat):Int)/\gx y'.l (s:Int)=((hw p.bits s ||| hw q.bits s:Nat):Int):=by
    intro m
    induction m with
    |zero=>intro i x y h1 h2;omega
    |succ m ih =>
      intro i x y h1 h2 hI;rw [zeq];by_cases c:i<10
      . obtain ⟨a1,a2⟩:=hI i c;rw [zAd (Nat.lt_irrefl i)] at a1 a2;obtain ⟨b1,b2⟩:=zbf qm c;obtain ⟨c1,c2⟩:=zbf qb c;have d1:=(zbf pm c).2;have d2:=(zbf pb c).2;rw [zAc (lt10 c),zAc ⟨by omega,lt10 c⟩,a1,a2,b1,c1,z4y (by omega) (by omega),z4y (by omega) (by omega),za4 i (by omega)];refine ih (i+1) _ _ (by omega) (by omega) fun s hs=>?_;by_cases e:s=i
        . subst e;rw [zf3 _ c,zf3 _ c,zAc (Nat.lt_succ_self s),zAc (Nat.lt_succ_self s)];exact ⟨rfl,rfl⟩
        . rw [zit _ hs (fun h=>e h.symm),zit _ hs (fun h=>e h.symm)];obtain ⟨h3,h4⟩:=hI s hs;rw [h3,h4];by_cases f:s<i
          . rw [zAc f,zAc f,zAc (by omega),zAc (by omega)];exact ⟨rfl,rfl⟩
          . rw [zAd f,zAd f,zAd (by omega),zAd (by omega)];exact ⟨rfl,rfl⟩
      . obtain rfl:i=10:=by omega
        rw [zAd (by decide)];refine ⟨x,y,rfl,fun s hs=>?_⟩;have:=hI s hs;rw [zAc hs,zAc hs] at this;exact this
  unfold zik;rw [zr4 hp hq hk,ff]
  cases ho:zdi p q with
  |false=>exact ⟨_,by rw [zAd (by simp)],.inl ⟨rfl,rfl⟩⟩
  |true =>
    obtain ⟨x',y',e,hI⟩:=key k 0 p.mask p.bits (by omega) (by omega) fun s hs=>by
      rw [zAd (nl s),zAd (nl s)];exact ⟨(zbf pm hs).1,(zbf pb hs).1⟩
    rw [zAc rfl];change zeq k q k 0 p.mask p.bits=_ at e;rw [e,ff];refine ⟨_,rfl,.inr ⟨rfl,rfl,?_⟩⟩;have lt:∀ {a b:Nat},a<65536->b<65536->a ||| b<65536:=fun {a b} ha hb=>Nat.or_lt_two_pow (n:=16) ha hb
    have h1:zac x'=true:=zil fun j hj=>⟨_,(hI j hj).1,lt (zbf pm hj).2 (zbf qm hj).2⟩;have h2:zac y'=true:=zil fun j hj=>⟨_,(hI j hj).2,lt (zbf pb hj).2 (zbf qb hj).2⟩
    have b1:∀ j,j<160->hbit x' j=(hbit p.mask j || hbit q.mask j):=fun j hj=>by
      have:=(hI (j / 16) (by omega)).1;unfold hbit
      have e:hw x' (j / 16)=hw p.mask (j / 16) ||| hw q.mask (j / 16):=by
        unfold hw at this ⊢;rw [this];rfl
      rw [e,Nat.testBit_or]
    have b2:∀ j,j<160->hbit y' j=(hbit p.bits j || hbit q.bits j):=fun j hj=>by
      have:=(hI (j / 16) (by omega)).2;unfold hbit
      have e:hw y' (j / 16)=hw p.bits (j / 16) ||| hw q.bits (j / 16):=by
        unfold hw at this ⊢;rw [this];rfl
      rw [e,Nat.testBit_or]
    refine ⟨h1,h2,b1,fun j hj=>?_⟩;show hbit y' j=_;rw [b2 j hj]
    cases hm:hbit q.mask j with
    |true =>
      rw [zAc rfl]
      cases hpb:hbit p.bits j with
      |false=>rfl
      |true=>rw [<- zim.1 ho j hj (pw j hj hpb) hm,hpb];rfl
    |false =>
      rw [zAd (by simp)]
      cases hqb:hbit q.bits j with
      |false=>rw [Bool.or_false]
      |true=>rw [qw j hj hqb] at hm;cases hm
theorem Meet.right {p q r:Pat} (h:Meet p q r) (hp:zaf p=true) (hq:zaf q=true):zaf r=true:=by
  obtain ⟨pm,pb,pw⟩:=zah.1 hp;obtain ⟨qm,qb,qw⟩:=zah.1 hq;refine zah.2 ⟨h.mask,h.bits,fun i hi hb=>?_⟩;rw [h.hb i hi] at hb;rw [h.hm i hi]
  cases hm:hbit q.mask i with
  |true=>exact Bool.or_true _
  |false=>rw [hm,zAd (by simp)] at hb;rw [pw i hi hb];rfl
theorem Meet.match {p q r:Pat} (h:Meet p q r) (ho:zdi p q=true) (x:Ar 10):zap r x=true↔zap p x=true/\zap q x=true:=by
  rw [zas,zas,zas];constructor
  . intro hm;refine ⟨fun i hi h1=>?_,fun i hi h1=>?_⟩
    . have:=hm i hi (by rw [h.hm i hi,h1];rfl);rw [h.hb i hi] at this;by_cases c:hbit q.mask i=true
      . rw [zAc c] at this;rw [zim.1 ho i hi h1 c];exact this
      . rw [zAd c] at this;exact this
    . have:=hm i hi (by rw [h.hm i hi,h1];exact Bool.or_true _);rw [h.hb i hi,zAc h1] at this;exact this
  . rintro ⟨hp,hq⟩ i hi h1;rw [h.hb i hi];by_cases c:hbit q.mask i=true
    . rw [zAc c];exact hq i hi c
    . rw [zAd c];rw [h.hm i hi,Bool.or_eq_true] at h1;rcases h1 with h1|h1
      . exact hp i hi h1
      . exact absurd h1 c
theorem Meet.into {p q r:Pat} {F:List Nat} (h:Meet p q r) (hp:∀ j,j<160->hbit p.mask j=true->j∈F) (hq:∀ j,j<160->hbit q.mask j=true->j∈F):∀ j,j<160->hbit r.mask j=true->j∈F:=fun j hj hm=>by
  rw [h.hm j hj,Bool.or_eq_true] at hm;rcases hm with hm|hm
  . exact hp j hj hm
  . exact hq j hj hm
theorem zvl {k:Nat} (t:List Rule) (n:Nat) (hn:n<=t.length) (ht:t.length<=5000) (hk:big<=k):zcx k t (n:Int)=some (bef t n,n):=by
  have key:∀ m j,j<=n->n - j<m->za5 k t (n:Int) m (j:Int) (bef t j++gb (n - j) (⟨zA 10,zA 10⟩:Pat))=some (bef t n):=by
    intro m
    induction m with
    |zero=>intro j h1 h2;omega
    |succ m ih =>
      intro j h1 h2;rw [za5];have hl:=zjz (t:=t) (i:=j) (by omega);by_cases c:j<n
      . have ct:j<t.length:=by omega
        rw [zAc (by omega),zAc ⟨by omega,by omega⟩,zAc ⟨by omega,by omega⟩,zAc (by rw [fx,lf,hl];omega),zd8 ct,za4 j (by omega)];have:=ih (j+1) (by omega) (by omega);rw [zsw ct] at this;rw [show ((j:Int)).toNat=j by omega,List.set_append_right _ _ (by omega),hl,pz,show n - j=(n - (j+1))+1 by omega,jc,ld];rw [gj] at this;exact this
      . obtain rfl:j=n:=by omega
        rw [zAd (by omega),pz,List.replicate_zero,gt]
  have:=key k 0 (ir _) (by simp only [big] at hk;omega);unfold zcx;rw [zAc ⟨by omega,by omega⟩];rw [show ((0:Nat):Int)=0 from rfl,show bef t 0=[] from rfl,gg,Nat.sub_zero] at this;rw [show ((n:Int)).toNat=n by omega,this,ff]
theorem z08 {k:Nat} (t:List Rule) (n:Nat) (hn:n<=t.length) (ht:t.length<=5000) (hk:big<=k):zhk k t (n:Int)=some (bef t n,n):=by
  have key:∀ m j,j<=n->n - j<m->zc3 k t (n:Int) m (j:Int) (bef t j) (bef t j).length=some (bef t n,(bef t n).length):=by
    intro m
    induction m with
    |zero=>intro j h1 h2;omega
    |succ m ih =>
      intro j h1 h2;rw [zc3];by_cases c:j<n
      . have ct:j<t.length:=by omega
        have hl:=zjz (t:=t) (i:=j) (by omega);rw [zAc (by omega),zAc ⟨by omega,by omega⟩,zAc (by omega),zd8 ct,za4 j (by omega)];have:=ih (j+1) (by omega) (by omega);rw [zsw ct,fx,ip] at this;exact this
      . obtain rfl:j=n:=by omega
        rw [zAd (by omega)]
  have:=key k 0 (ir _) (by simp only [big] at hk;omega);unfold zhk;rw [show ((0:Nat):Int)=0 from rfl,show bef t 0=[] from rfl,show (([]:List Pat).length)=0 from rfl] at this;rw [this,ff,zjz hn]
abbrev zqm (r s:Rule):Prop:=r.step=s.step/\r.outs=s.outs
structure Dif (a b:List Rule) (i j:Nat) (h:Ar 10):Prop where
  ne:¬ zqm (a.getD i default) (b.getD j default)
  one:Out (a.getD i default).mat (bef a i) h
  two:Out (b.getD j default).mat (bef b j) h
def U (n i j i' j':Nat):Prop:=j'<n/\(i'<i\/(i'=i/\j'<j))
def Acc (a b:List Rule) (P:Nat->Nat->Prop) (x:Ar 10) (f:Bool):Prop:=(f=true/\(∃ i j,P i j/\Dif a b i j x)/\∀ i j h,P i j->Dif a b i j h->¬ ltH h x)\/(f=false/\x=zA 10/\∀ i j h,P i j->¬ Dif a b i j h)
section
variable {a b:List Rule} {P P':Nat->Nat->Prop} {x y:Ar 10} {f:Bool} {i j:Nat}
theorem Acc.right (h:Acc a b P x f) (hf:f=true):zac x=true:=by
  rcases h with ⟨_,⟨i,j,_,d⟩,_⟩|⟨e,_,_⟩
  . exact d.one.right
  . rw [e] at hf;cases hf
theorem Acc.mono (h:Acc a b P x f) (h1:∀ i j,P i j->P' i j) (h2:∀ i j,P' i j->P i j):Acc a b P' x f:=by
  rcases h with ⟨e,⟨i,j,p,d⟩,l⟩|⟨e,z,n⟩
  . exact .inl ⟨e,⟨i,j,h1 _ _ p,d⟩,fun i j h p'=>l i j h (h2 _ _ p')⟩
  . exact .inr ⟨e,z,fun i j h p'=>n i j h (h2 _ _ p')⟩
theorem Acc.none (h:Acc a b P x f) (h1:∀ i j,P i j->P' i j) (h2:∀ i' j',P' i' j'->P i' j'\/(i'=i/\j'=j)) (hn:∀ h,¬ Dif a b i j h):Acc a b P' x f:=by
  rcases h with ⟨e,⟨i1,j1,p,d⟩,l⟩|⟨e,z,n⟩
  . refine .inl ⟨e,⟨i1,j1,h1 _ _ p,d⟩,fun i' j' h p' d'=>?_⟩;rcases h2 _ _ p' with q|⟨rfl,rfl⟩
    . exact l _ _ h q d'
    . exact absurd d' (hn h)
  . refine .inr ⟨e,z,fun i' j' h p' d'=>?_⟩;rcases h2 _ _ p' with q|⟨rfl,rfl⟩
    . exact n _ _ h q d'
    . exact hn h d'
theorem Acc.keep (h:Acc a b P x true) (h1:∀ i j,P i j->P' i j) (h2:∀ i' j',P' i' j'->P i' j'\/(i'=i/\j'=j)) (hy:Dif a b i j y) (hl:∀ h,Dif a b i j h->¬ ltH h y) (hc:¬ ltH y x):Acc a b P' x true:=by
  have hx:=h.right rfl;rcases h with ⟨e,⟨i1,j1,p,d⟩,l⟩|⟨e,_,_⟩
  . refine .inl ⟨rfl,⟨i1,j1,h1 _ _ p,d⟩,fun i' j' h p' d'=>?_⟩;rcases h2 _ _ p' with q|⟨rfl,rfl⟩
    . exact l _ _ h q d'
    . intro hlt;rcases zsm hy.one.right hx with w|w|w
      . rw [w] at hl;exact hl h d' hlt
      . exact hc w
      . exact hl h d' (zpw hlt w)
  . cases e
theorem Acc.take (h:Acc a b P x f) (h1:∀ i j,P i j->P' i j) (h2:∀ i' j',P' i' j'->P i' j'\/(i'=i/\j'=j)) (hp:P' i j) (hy:Dif a b i j y) (hl:∀ h,Dif a b i j h->¬ ltH h y) (hc:f=true->ltH y x):Acc a b P' y true:=by
  refine .inl ⟨rfl,⟨i,j,hp,hy⟩,fun i' j' h' p' d'=>?_⟩;rcases h2 _ _ p' with q|⟨rfl,rfl⟩
  . rcases h with ⟨e,_,l⟩|⟨_,_,n⟩
    . exact fun hlt=>l _ _ h' q d' (zpw hlt (hc e))
    . exact absurd d' (n _ _ h' q)
  . exact hl h' d'
theorem Acc.uniq {f g:Bool} (h:Acc a b P x f) (k:Acc a b P y g):x=y/\f=g:=by
  rcases h with ⟨e,⟨i1,j1,p,d⟩,l⟩|⟨e,z,n⟩<;>rcases k with ⟨e',⟨i2,j2,p',d'⟩,l'⟩|⟨e',z',n'⟩
  . refine ⟨?_,by rw [e,e']⟩;rcases zsm d.one.right d'.one.right with w|w|w
    . exact w
    . exact absurd w (l' _ _ _ p d)
    . exact absurd w (l _ _ _ p' d')
  . exact absurd d (n' _ _ _ p)
  . exact absurd d' (n _ _ _ p')
  . exact ⟨by rw [z,z'],by rw [e,e']⟩
theorem Dif.symm {h:Ar 10} (d:Dif a b i j h):Dif b a j i h:=⟨fun ⟨p,q⟩=>d.ne ⟨p.symm,q.symm⟩,d.two,d.one⟩
def zl5 (a b:List Rule) (x:Ar 10) (f:Bool):Prop:=Acc a b (fun i j=>i<a.length/\j<b.length) x f
theorem zl5.symm (h:zl5 a b x f):zl5 b a x f:=by
  rcases h with ⟨e,⟨i1,j1,p,d⟩,l⟩|⟨e,z,n⟩
  . exact .inl ⟨e,⟨j1,i1,⟨p.2,p.1⟩,d.symm⟩,fun i j h p d=>l j i h ⟨p.2,p.1⟩ d.symm⟩
  . exact .inr ⟨e,z,fun i j h p d=>n j i h ⟨p.2,p.1⟩ d.symm⟩
theorem U.step {n i j:Nat} (hj:j<n):(∀ i' j',U n i j i' j'->U n i (j+1) i' j')/\(∀ i' j',U n i (j+1) i' j'->U n i j i' j'\/(i'=i/\j'=j))/\U n i (j+1) i j:=by
  unfold U;refine ⟨fun i' j' h=>?_,fun i' j' h=>?_,?_⟩<;>omega
theorem Acc.row {n:Nat} (h:Acc a b (U n i n) x f):Acc a b (U n (i+1) 0) x f:=h.mono (fun i' j' h=>by unfold U at h ⊢;omega) fun i' j' h=>by unfold U at h ⊢;omega
theorem Acc.all (h:Acc a b (U b.length a.length 0) x f):zl5 a b x f:=h.mono (fun i' j' h=>by unfold U at h;exact ⟨by omega,h.1⟩) fun i' j' h=>by unfold U;exact ⟨h.2,by omega⟩
theorem Acc.zero:Acc a b (U b.length 0 0) (zA 10) false:=.inr ⟨rfl,rfl,fun i j h p=>by unfold U at p;omega⟩
theorem zzj {p q m:Pat} {l1 l2:List Pat} {h:Ar 10} (hm:Meet p q m) (ho:zdi p q=true):Out m (l1++l2) h↔Out p l1 h/\Out q l2 h:=by
  constructor
  . intro k;obtain ⟨k1,k2⟩:=(hm.match ho h).1 k.into;exact ⟨⟨k.right,k1,fun q hq=>k.no q (List.mem_append_left _ hq)⟩,⟨k.right,k2,fun q hq=>k.no q (List.mem_append_right _ hq)⟩⟩
  . rintro ⟨k1,k2⟩;exact ⟨k1.right,(hm.match ho h).2 ⟨k1.into,k2.into⟩,fun q hq=>(io.1 hq).elim (k1.no q) (k2.no q)⟩
theorem z6u {m:Pat} {r:Ar 10×Bool} (hne:¬ zqm (a.getD i default) (b.getD j default)) (hm:Meet (a.getD i default).mat (b.getD j default).mat m) (ho:zdi (a.getD i default).mat (b.getD j default).mat=true) (hr:Res m (bef a i++bef b j) r):(r.2=true/\Dif a b i j r.1/\∀ h,Dif a b i j h->¬ ltH h r.1)\/(r.2=false/\∀ h,¬ Dif a b i j h):=by
  rcases hr with ⟨e,q⟩|⟨e,q⟩
  . obtain ⟨o1,o2⟩:=(zzj hm ho).1 q.out;exact .inl ⟨e,⟨hne,o1,o2⟩,fun h d=>q.least h ((zzj hm ho).2 ⟨d.one,d.two⟩)⟩
  . exact .inr ⟨by rw [e],fun h d=>q h ((zzj hm ho).2 ⟨d.one,d.two⟩)⟩
theorem ycl (ho:zdi (a.getD i default).mat (b.getD j default).mat=false):∀ h,¬ Dif a b i j h:=fun h d=>by
  have:=zt1 d.one.into d.two.into;rw [ho] at this;cases this
theorem yb8 {O:Pat->List Pat->Option (Ar 10×Bool)} {m:Pat} {l1 l2:List Pat} {n1:Nat} {r:Ar 10×Bool} (e:l1.length=n1) (hb:(n1+l2.length)*161<=1000000000) (h:O m (l1++l2)=some r):(if (n1+l2.length)*161<=1000000000 then (if l2.length=0 then (if l1.length=n1 then ((O m l1).bind fun r=>some (r.2,l1,n1,r.1)) else none) else (if (l1++l2).length=n1+l2.length then ((O m (l1++l2)).bind fun r2=>some (r2.2,l1++l2,n1+l2.length,r2.1)) else none)) else none)=some (r.2,l1++l2,n1+l2.length,r.1):=by
  rw [zAc hb];by_cases c:l2.length=0
  . have:=ji c;subst this;rw [gt] at h;rw [zAc c,zAc e,h,ff,gt];rfl
  . rw [zAd c,zAc (by rw [fx,e]),h,ff]
theorem yf0 (r:Rule):(⟨r.prio,r.mat,r.step,r.outs⟩:Rule)=r:=rfl
theorem yn4 {k:Nat} {h x:Ar 10} {f:Bool} (hh:zac h=true) (hx:f=true->zac x=true) (hk:10<k):∃ y,ze9 k h f x=some (true,y)/\((y=h/\(f=true->ltH h x))\/(f=true/\y=x/\¬ ltH h x)):=by
  unfold ze9
  cases f with
  |false=>exact ⟨h,by rw [zAd (by simp)],.inl ⟨rfl,fun q=>by cases q⟩⟩
  |true =>
    obtain ⟨c,e,hc⟩:=zrb (k:=k) hh (hx rfl) hk;rw [zAc rfl,e,ff];by_cases q:c<0
    . exact ⟨h,by rw [zAc q],.inl ⟨rfl,fun _=>hc.neg.1 q⟩⟩
    . exact ⟨x,by rw [zAd q],.inr ⟨rfl,rfl,fun w=>q (hc.neg.2 w)⟩⟩
end
def rst:Rule:=⟨0,⟨zA 10,zA 10⟩,-1,[]⟩
section
variable {k:Nat} {t u a b:List Rule} {F:List Nat}
theorem zzr (ha:Lit a F) (i:Nat):(∀ q,q∈bef a i->zaf q=true)/\∀ q,q∈bef a i->∀ j,j<160->hbit q.mask j=true->j∈F :=
  ⟨fun q hq=>by obtain ⟨r,hr,rfl⟩:=z4o hq;exact ha.right r hr,fun q hq=>by obtain ⟨r,hr,rfl⟩:=z4o hq;exact ha.mask r hr⟩
theorem ynb (ea:t++[(⟨0,⟨zA 10,zA 10⟩,-1,[]⟩:Rule)]=a) (eb:u++[(⟨0,⟨zA 10,zA 10⟩,-1,[]⟩:Rule)]=b) (ha:Lit a F) (hb:Lit b F) (la:a.length<=400) (lb:b.length<=400) (oa:∀ r,r∈a->ziq r) (hk:big<=k) {i:Nat} (hi:i<a.length):∀ (m j:Nat) (x:Ar 10) (f:Bool),j<=b.length->b.length - j<m->Acc a b (U b.length i j) x f->∃ x' f',zbg k t u (i:Int) m (j:Int) x f=some (x',f')/\Acc a b (U b.length (i+1) 0) x' f':=by
  have hk10:10<k:=gr (by decide) hk;intro m
  induction m with
  |zero=>intro j x f h1 h2;omega
  |succ m ih =>
    intro j x f h1 h2 hA;rw [zbg];simp only [ea,eb,yf0];by_cases c:j<b.length
    . have hp:=ha.right _ (zch hi);have hq:=hb.right _ (zch c);obtain ⟨u1,u2,u3⟩:=U.step (i:=i) c;rw [zAc (zaq c),zAc ⟨by omega,zaq c⟩,ziu,ziu,zs6 _ _ (oa _ (zch hi)) hk,ff,za4 j (by omega)];by_cases al:zqm (a.getD i default) (b.getD j default)
      . rw [zAc (zAa al)];exact ih (j+1) x f (by omega) (by omega) (hA.none u1 u2 fun h d=>d.ne al)
      . rw [zAd (by rw [decide_eq_true_eq];exact al)];obtain ⟨r,e,hr⟩:=z8x (k:=k) hp hq hk10;rw [e,ff];rcases hr with ⟨ho,h2⟩|⟨ho,h2,hm⟩
        . rw [h2,zAd (by simp)];exact ih (j+1) x f (by omega) (by omega) (hA.none u1 u2 (ycl ho))
        . obtain ⟨l1,l2⟩:=zzr ha i;obtain ⟨l3,l4⟩:=zzr hb j;have b1:=zjz (t:=a) (i:=i) (by omega);have b2:=zjz (t:=b) (i:=j) (by omega);obtain ⟨s,e2,hs⟩:=z3f hk (hm.right hp hq) (l:=bef a i++bef b j) (fun q h=>(io.1 h).elim (l1 q) (l3 q)) (by rw [fx];omega);have er:=yb8 (O:=ze4 k) (n1:=i) b1 (by omega) e2;rw [h2,zAc rfl,zvl a i (by omega) (by omega) hk,ff,z0n b j (by omega) (by omega) hk,ff];dsimp only;rw [er,ff];rcases z6u al hm ho hs with ⟨q1,q2,q3⟩|⟨q1,q2⟩
          . rw [zAc q1];obtain ⟨y,ey,hy⟩:=yn4 (k:=k) (f:=f) q2.one.right hA.right hk10;dsimp only;rw [ey,ff];refine ih (j+1) y true (by omega) (by omega) ?_;rcases hy with ⟨rfl,hc⟩|⟨rfl,rfl,hc⟩
            . exact hA.take u1 u2 u3 q2 q3 hc
            . exact hA.keep u1 u2 q2 q3 hc
          . rw [zAd (by rw [q1];simp)];exact ih (j+1) x f (by omega) (by omega) (hA.none u1 u2 q2)
    . obtain rfl:j=b.length:=by omega
      rw [zAd (by omega)];exact ⟨x,f,rfl,hA.row⟩
theorem ync (ea:t++[(⟨0,⟨zA 10,zA 10⟩,-1,[]⟩:Rule)]=a) (eb:u++[(⟨0,⟨zA 10,zA 10⟩,-1,[]⟩:Rule)]=b) (ha:Lit a F) (hb:Lit b F) (la:a.length<=400) (lb:b.length<=400) (oa:∀ r,r∈a->ziq r) (hk:big<=k):∀ (m i:Nat) (x:Ar 10) (f:Bool),i<=a.length->a.length - i<m->Acc a b (U b.length i 0) x f->∃ x' f',zcy k t u m (i:Int) x f=some (x',f')/\zl5 a b x' f':=by
  intro m
  induction m with
  |zero=>intro i x f h1 h2;omega
  |succ m ih =>
    intro i x f h1 h2 hA;rw [zcy];simp only [ea];by_cases c:i<a.length
    . obtain ⟨x1,f1,e,h⟩:=ynb ea eb ha hb la lb oa hk c k 0 x f (ir _) (by simp only [big] at hk;omega) hA;change zbg k t u (i:Int) k 0 x f=_ at e;rw [zAc (zaq c),zAc ⟨by omega,zaq c⟩,e,ff,ff,za4 i (by omega)];exact ih (i+1) x1 f1 (by omega) (by omega) h
    . obtain rfl:i=a.length:=by omega
      rw [zAd (by omega)];exact ⟨x,f,rfl,hA.all⟩
theorem zzq (ht:Lit t F) (hl:t.length<=300):Lit (t++[rst]) F:=by
  refine ⟨by rw [fx,ip];omega,fun r hr=>?_,ht.few,fun r hr j hj h=>?_⟩
  . rcases io.1 hr with q|q
    . exact ht.right r q
    . cases gu.1 q;decide
  . rcases io.1 hr with q|q
    . exact ht.mask r q j hj h
    . cases gu.1 q
      have:hbit (zA 10) j=false:=by
        have z:∀ s,s<10->hw (zA 10) s=0:=by decide
        unfold hbit;rw [z (j / 16) (by omega)];exact oi _
      rw [show hbit rst.mat.mask j=hbit (zA 10) j from rfl,this] at h;cases h
theorem yit (ht:zko t):∀ r,r∈t++[rst]->ziq r:=fun r hr=>by
  rcases io.1 hr with q|q
  . exact ht.2 r q
  . cases gu.1 q;exact ⟨by decide,fun l hl=>by cases hl⟩
theorem z3q (ht:Lit t F) (hu:Lit u F) (lt:t.length<=300) (lu:u.length<=300) (ot:zko t) (hk:big<=k):∃ x f,zha k t u=some (x,!f)/\zl5 (t++[rst]) (u++[rst]) x f:=by
  obtain ⟨x,f,e,h⟩:=ync (t:=t) (u:=u) rfl rfl (zzq ht lt) (zzq hu lu) (by simp;omega) (by simp;omega) (yit ot) hk k 0 (zA 10) false (ir _) (by simp only [big] at hk;rw [fx,ip];omega) Acc.zero;refine ⟨x,f,?_,h⟩;unfold zha;change zcy k t u k 0 (zA 10) false=_ at e;rw [zAc (by omega),zAc (by omega),zAc (by omega),zAc (by omega),zAc (by rw [fx,ip]),zAc (by rw [fx,ip]),e];rfl
theorem ynk {sa sb:List Rule×Nat} (ea:sa.1=a) (eb:sb.1=b) (ha:Lit a F) (hb:Lit b F) (la:a.length<=400) (lb:b.length<=400) (oa:∀ r,r∈a->ziq r) (hk:big<=k) {i:Nat} (hi:i<a.length):∀ (m j:Nat) (x:Ar 10) (f:Bool),j<=b.length->b.length - j<m->Acc a b (U b.length i j) x f->∃ x' f',zct k sa sb (i:Int) m f (j:Int) x=some (f',x')/\Acc a b (U b.length (i+1) 0) x' f':=by
  have hk10:10<k:=gr (by decide) hk;have hk160:160<k:=gr (by decide) hk;intro m
  induction m with
  |zero=>intro j x f h1 h2;omega
  |succ m ih =>
    intro j x f h1 h2 hA;rw [zct];simp only [ea,eb];by_cases c:j<b.length
    . have hp:=ha.right _ (zch hi);have hq:=hb.right _ (zch c);obtain ⟨u1,u2,u3⟩:=U.step (i:=i) c;obtain ⟨r,e,hr⟩:=ycg (k:=k) hp hq hk160;rw [zAc (zaq c),zAc ⟨by omega,zaq hi⟩,zAc ⟨by omega,zaq c⟩,ziu,ziu,z09 _ _ (oa _ (zch hi)) hk,ff,e,ff,za4 j (by omega)];by_cases al:zqm (a.getD i default) (b.getD j default)
      . rw [zAc (zAa al),ff,zAc rfl];exact ih (j+1) x f (by omega) (by omega) (hA.none u1 u2 fun h d=>d.ne al)
      . rw [zAd (by rw [decide_eq_true_eq];exact al),ff];rcases hr with ⟨ho,h2⟩|⟨ho,h2,hm⟩
        . rw [h2,zAc (by simp)];exact ih (j+1) x f (by omega) (by omega) (hA.none u1 u2 (ycl ho))
        . obtain ⟨l1,l2⟩:=zzr ha i;obtain ⟨l3,l4⟩:=zzr hb j;have b1:=zjz (t:=a) (i:=i) (by omega);have b2:=zjz (t:=b) (i:=j) (by omega);obtain ⟨s,e2,hs⟩:=z4e (k:=k) ha.few (hm.right hp hq) (hm.into (ha.mask _ (zch hi)) (hb.mask _ (zch c))) (l:=bef a i++bef b j) (fun q h=>(io.1 h).elim (l1 q) (l3 q)) (fun q h=>(io.1 h).elim (l2 q) (l4 q)) (by rw [fx];omega) hk;have er:=yb8 (O:=zen k) (n1:=i) b1 (by omega) e2;rw [h2,zAd (by simp),z08 a i (by omega) (by omega) hk,ff,zwz b j (by omega) (by omega) hk,ff];dsimp only;rw [er,ff];dsimp only;rcases z6u al hm ho hs with ⟨q1,q2,q3⟩|⟨q1,q2⟩
          . rw [zAc q1]
            cases f with
            |false =>
              rw [zAd (by simp),ff,zAc rfl];exact ih (j+1) _ true (by omega) (by omega) (hA.take u1 u2 u3 q2 q3 fun h=>by cases h)
            |true =>
              obtain ⟨cc,ec,hc⟩:=zmc (k:=k) q2.one.right (hA.right rfl) hk10;rw [zAc rfl,ec,ff,ff];by_cases q:cc<0
              . rw [zAc (zAa q)];exact ih (j+1) _ true (by omega) (by omega) (hA.take u1 u2 u3 q2 q3 fun _=>hc.neg.1 q)
              . rw [zAd (by rw [decide_eq_true_eq];exact q)];exact ih (j+1) x true (by omega) (by omega) (hA.keep u1 u2 q2 q3 fun w=>q (hc.neg.2 w))
          . rw [zAd (by rw [q1];simp),ff,zAd (by simp)];exact ih (j+1) x f (by omega) (by omega) (hA.none u1 u2 q2)
    . obtain rfl:j=b.length:=by omega
      rw [zAd (by omega)];exact ⟨x,f,rfl,hA.row⟩
theorem ynl {sa sb:List Rule×Nat} (ea:sa.1=a) (eb:sb.1=b) (ha:Lit a F) (hb:Lit b F) (la:a.length<=400) (lb:b.length<=400) (oa:∀ r,r∈a->ziq r) (hk:big<=k):∀ (m i:Nat) (x:Ar 10) (f:Bool),i<=a.length->a.length - i<m->Acc a b (U b.length i 0) x f->∃ x' f',zdu k sa sb m f (i:Int) x=some (f',x')/\zl5 a b x' f':=by
  intro m
  induction m with
  |zero=>intro i x f h1 h2;omega
  |succ m ih =>
    intro i x f h1 h2 hA;rw [zdu,ea];by_cases c:i<a.length
    . obtain ⟨x1,f1,e,h⟩:=ynk ea eb ha hb la lb oa hk c k 0 x f (ir _) (by simp only [big] at hk;omega) hA;change zct k sa sb (i:Int) k f 0 x=_ at e;rw [zAc (zaq c),e,ff,ff,za4 i (by omega)];exact ih (i+1) x1 f1 (by omega) (by omega) h
    . obtain rfl:i=a.length:=by omega
      rw [zAd (by omega)];exact ⟨x,f,rfl,hA.all⟩
theorem z6m {k:Nat} (t:List Rule) (ht:t.length<=300):(if (0+t.length)*201<=1000000000 then (if t.length=0 then ((zhj k).bind fun bo=>(if (0+1)*201<=1000000000 then some ([bo],1) else none)) else ((zhj k).bind fun bp=>(if (t.length+1)*201<=1000000000 then some (t++[bp],t.length+1) else none))) else none:Option (List Rule×Nat))=some (t++[rst],t.length+1):=by
  unfold zhj;rw [zAc (by omega)];by_cases c:t.length=0
  . have:=ji c;subst this;rw [zAc c];rfl
  . rw [zAd c,ff,zAc (by omega)];rfl
theorem ycc (ht:Lit t F) (hu:Lit u F) (lt:t.length<=300) (lu:u.length<=300) (ot:zko t) (hk:big<=k):∃ x f,zjf k t u=some (x,!f)/\zl5 (t++[rst]) (u++[rst]) x f:=by
  obtain ⟨x,f,e,h⟩:=ynl (k:=k) (sa:=(t++[rst],t.length+1)) (sb:=(u++[rst],u.length+1)) rfl rfl (zzq ht lt) (zzq hu lu) (by simp;omega) (by simp;omega) (yit ot) hk k 0 (zA 10) false (ir _) (by simp only [big] at hk;rw [fx,ip];omega) Acc.zero;refine ⟨x,f,?_,h⟩;unfold zjf;change zdu k (t++[rst],t.length+1) (u++[rst],u.length+1) k false 0 (zA 10)=_ at e;rw [z6m t lt,ff,zAc (by simp),z6m u lu,ff,zAc (by simp),e];rfl
end
theorem ygs (t:List Rule) (h:Ar 10):(ylu t h=-1/\t.find? (fun r=>zap r.mat h)=none)\/∃ i:Nat,∃ hi:i<t.length,ylu t h=(i:Int)/\t.find? (fun r=>zap r.mat h)=some t[i]/\zap t[i].mat h=true/\∀ j (hj:j<t.length),j<i->zap t[j].mat h=false:=by
  unfold ylu;rcases z70 (fun r:Rule=>zap r.mat h) t with ⟨e1,e2⟩|⟨i,hi,e1,e2⟩
  . exact .inl ⟨e2,e1⟩
  . refine .inr ⟨i,hi,e1,e2,?_⟩;unfold idxB at e1
    cases hf:t.findIdx? (fun r:Rule=>zap r.mat h) with
    |none=>rw [hf] at e1;simp only at e1;omega
    |some s =>
      rw [hf] at e1;simp only at e1;obtain rfl:s=i:=by omega
      obtain ⟨h1,h2,h3⟩:=List.findIdx?_eq_some_iff_getElem.1 hf;exact ⟨h2,fun j hj hji=>by simpa using h3 j hji⟩
theorem zox {t:List Rule} {i:Nat} (hi:i<=t.length) {q:Pat}:q∈bef t i↔∃ j,∃ hj:j<t.length,j<i/\t[j].mat=q:=by
  unfold bef;rw [jo];constructor
  . rintro ⟨r,hr,rfl⟩;obtain ⟨j,hj,rfl⟩:=List.getElem_of_mem hr;rw [ik] at hj;exact ⟨j,by omega,by omega,by rw [List.getElem_take]⟩
  . rintro ⟨j,hj,hji,rfl⟩;exact ⟨t[j],by rw [List.mem_take_iff_getElem];exact ⟨j,by omega,rfl⟩,rfl⟩
theorem ylp {t:List Rule} {i:Nat} (hi:i<t.length) {h:Ar 10}:Out t[i].mat (bef t i) h↔zac h=true/\zap t[i].mat h=true/\∀ j (hj:j<t.length),j<i->zap t[j].mat h=false:=by
  constructor
  . rintro ⟨a,b,c⟩;exact ⟨a,b,fun j hj hji=>c _ ((zox (by omega)).2 ⟨j,hj,hji,rfl⟩)⟩
  . rintro ⟨a,b,c⟩;refine ⟨a,b,fun q hq=>?_⟩;obtain ⟨j,hj,hji,rfl⟩:=(zox (by omega)).1 hq;exact c j hj hji
def hd (t:List Rule) (h:Ar 10):Int×List (List Alt):=match t.find? (fun r=>zap r.mat h) with|some r=>(r.step,r.outs)|none=>(-1,[])
theorem zq1 (t:List Rule) {h:Ar 10} (hh:zac h=true):∃ i,i<(t++[rst]).length/\Out ((t++[rst]).getD i default).mat (bef (t++[rst]) i) h/\((t++[rst]).getD i default).step=(hd t h).1/\((t++[rst]).getD i default).outs=(hd t h).2:=by
  have hb:∀ i,i<=t.length->bef (t++[rst]) i=bef t i:=fun i hi=>by unfold bef;rw [jx hi]
  have hr:zap rst.mat h=true:=zas.2 fun i hi hm=>by
    have z:∀ s,s<10->hw (zA 10) s=0:=by decide
    have:hbit rst.mat.mask i=false:=by
      show hbit (zA 10) i=false;unfold hbit;rw [z (i / 16) (by omega)];exact oi _
    rw [this] at hm;cases hm
  unfold hd;rcases ygs t h with ⟨_,e⟩|⟨i,hi,_,e,hm,hn⟩
  . refine ⟨t.length,by rw [fx,ip];omega,?_,?_⟩
    . rw [fo,im (fp _),pz];refine ⟨hh,hr,fun q hq=>?_⟩;rw [hb _ (fp _)] at hq;obtain ⟨r,hr,rfl⟩:=z4o hq;have:=List.find?_eq_none.1 e r hr;simpa using this
    . rw [fo,im (fp _),pz,e];exact ⟨rfl,rfl⟩
  . have eg:(t++[rst]).getD i default=t[i]:=by rw [fo,List.getElem?_append_left hi,fk hi];rfl
    refine ⟨i,by rw [fx,ip];omega,?_,?_⟩
    . rw [eg,hb _ (by omega)];exact (ylp hi).2 ⟨hh,hm,hn⟩
    . rw [eg,e];exact ⟨rfl,rfl⟩
theorem yco {a:List Rule} {i j:Nat} {h:Ar 10} (hi:i<a.length) (hj:j<a.length) (k1:Out (a.getD i default).mat (bef a i) h) (k2:Out (a.getD j default).mat (bef a j) h):i=j:=by
  have key:∀ {i j:Nat},i<a.length->i<j->j<a.length->Out (a.getD i default).mat (bef a i) h->Out (a.getD j default).mat (bef a j) h->False:=fun {i j} hi hij hj k1 k2=>by
    have:=k2.no _ ((zox (by omega)).2 ⟨i,hi,hij,rfl⟩);have e:=k1.into;rw [fo,fk hi] at e;rw [show (some a[i]).getD default=a[i] from rfl,this] at e;cases e
  rcases Nat.lt_trichotomy i j with c|c|c
  . exact (key hi c hj k1 k2).elim
  . exact c
  . exact (key hj c hi k2 k1).elim
theorem zl5.same {t u:List Rule} {x:Ar 10} (h:zl5 (t++[rst]) (u++[rst]) x false) {y:Ar 10} (hy:zac y=true):hd t y=hd u y:=by
  obtain ⟨i,hi,o1,s1,w1⟩:=zq1 t hy;obtain ⟨j,hj,o2,s2,w2⟩:=zq1 u hy;rcases h with ⟨e,_,_⟩|⟨_,_,n⟩
  . cases e
  . refine js fun hne=>n i j y ⟨hi,hj⟩ ⟨fun q=>hne ?_,o1,o2⟩;exact Prod.ext (s1.symm.trans (q.1.trans s2)) (w1.symm.trans (q.2.trans w2))
theorem zl5.differ {t u:List Rule} {x:Ar 10} (h:zl5 (t++[rst]) (u++[rst]) x true):zac x=true/\hd t x≠hd u x/\∀ y,zac y=true->ltH y x->hd t y=hd u y:=by
  rcases h with ⟨_,⟨i,j,⟨hi,hj⟩,d⟩,l⟩|⟨e,_,_⟩
  . refine ⟨d.one.right,fun e=>d.ne ?_,fun y hy hlt=>?_⟩
    . obtain ⟨i',hi',o1,s1,w1⟩:=zq1 t d.one.right;obtain ⟨j',hj',o2,s2,w2⟩:=zq1 u d.one.right;obtain rfl:=yco hi hi' d.one o1;obtain rfl:=yco hj hj' d.two o2;exact ⟨by rw [s1,s2,e],by rw [w1,w2,e]⟩
    . obtain ⟨i',hi',o1,s1,w1⟩:=zq1 t hy;obtain ⟨j',hj',o2,s2,w2⟩:=zq1 u hy;refine js fun hne=>l i' j' y ⟨hi',hj'⟩ ⟨fun q=>hne ?_,o1,o2⟩ hlt;exact Prod.ext (s1.symm.trans (q.1.trans s2)) (w1.symm.trans (q.2.trans w2))
  . cases e
theorem zl5.of_same {t u:List Rule} {x:Ar 10} {f:Bool} (h:zl5 (t++[rst]) (u++[rst]) x f) (hs:∀ y,zac y=true->hd t y=hd u y):f=false:=by
  cases f with
  |false=>rfl
  |true =>
    obtain ⟨h1,h2,_⟩:=zl5.differ h;exact absurd (hs x h1) h2
theorem z4m {k:Nat} (a b:Rule) (ha:ziq a) (hk:big<=k):zii k a b=some (decide (zqm a b)):=by
  unfold zii;rw [zvm _ b (show ziq ⟨b.prio,b.mat,a.step,a.outs⟩ from ha) hk,ff];congr 1;rw [ku,decide_eq_true_eq,decide_eq_true_eq];constructor
  . intro h;rw [<- h];exact ⟨rfl,rfl⟩
  . rintro ⟨h1,h2⟩;cases a;cases b;simp only at h1 h2;subst h1;subst h2;rfl
theorem yb9 {k:Nat} (a b:Rule) (ha:ziq a) (hk:big<=k):zk1 k a b=some (decide (zqm a b)):=by
  unfold zk1;rw [zrq _ _ (show ziq ⟨0,⟨zA 10,zA 10⟩,a.step,a.outs⟩ from ha) hk,ff];congr 1;rw [ku,decide_eq_true_eq,decide_eq_true_eq];constructor
  . intro h;injection h with _ _ h1 h2;exact ⟨h1,h2⟩
  . rintro ⟨h1,h2⟩;rw [h1,h2]
def putM (t:List Rule) (i:Nat) (m:Pat):List Rule:=t.set i { t.getD i default with mat:=m }
theorem zfj {t:List Rule} {i:Nat} {m:Pat}:(putM t i m).length=t.length:=by unfold putM;rw [List.length_set]
theorem zsg {t:List Rule} {i x:Nat} {m:Pat} (hx:x<t.length):(putM t i m).getD x default=if x=i then { t.getD x default with mat:=m } else t.getD x default:=by
  unfold putM;rw [fo,List.getElem?_set];by_cases h:i=x
  . subst h;rw [zAc rfl,zAc hx,zAc rfl];rfl
  . rw [zAd h,zAd (fun e=>h e.symm),fo]
theorem z6o {t:List Rule} {i j x:Nat} {m:Pat} (hx:x<t.length):(putM (putM t i m) j m).getD x default=if x=i\/x=j then { t.getD x default with mat:=m } else t.getD x default:=by
  rw [zsg (by rw [zfj];exact hx),zsg hx];by_cases h2:x=i
  . rw [zAc h2];by_cases h1:x=j
    . rw [zAc h1,zAc (Or.inr h1)]
    . rw [zAd h1,zAc (Or.inl h2)]
  . rw [zAd h2];by_cases h1:x=j
    . rw [zAc h1,zAc (Or.inr h1)]
    . rw [zAd h1,zAd (fun h=>h.elim h2 h1)]
theorem yeo (l:List Rule) (a:Rule) (o:Nat):delL (l++[a]) o (o+1)=if l.length=o then l else delL l o (o+1)++[a]:=by
  unfold delL;by_cases h:l.length=o
  . rw [zAc h,jx (by omega),ij (by omega),iw (by rw [fx,ip];omega),gt]
  . rw [zAd h];by_cases c:o<l.length
    . rw [jx (by omega),List.drop_append_of_le_length (by omega),gj]
    . rw [ij (by rw [fx,ip];omega),iw (by rw [fx,ip];omega),ij (by omega),iw (by omega),gt,gt]
theorem yam {t:List Rule} {o:Nat} (ho:o<t.length):wo t [(o:Int)]=delL t o (o+1):=by
  have key:∀ i,i<=t.length->woI t [(o:Int)] i=delL (t.take i) o (o+1):=by
    intro i
    induction i with
    |zero=>intro _;unfold delL;simp [woI]
    |succ i ih =>
      intro hi;have c:i<t.length:=by omega
      rw [zyo c,ih (by omega),mb,fk c,l6,yeo,ik];by_cases e:i=o
      . subst e;rw [zAc (by simp),zAc (by omega)];unfold delL;rw [ij (by rw [ik];omega),iw (by rw [ik];omega),gt]
      . rw [zAd (by simp;omega),zAd (by omega)]
  have:=key t.length (fp _);rw [l9] at this;exact this
def Jn (t:List Rule) (m:Merg) (u:List Rule):Prop :=
  (m.kind=1/\m.k=0/\∃ i:Nat,m.i=(i:Int)/\i<t.length/\u=delL t i (i+1)) \/
  (∃ (i j:Nat) (both:Pat) (b:Nat),m.i=(i:Int)/\m.k=(j:Int)/\i<j/\j<t.length/\zqm (t.getD i default) (t.getD j default)/\zmf (t.getD i default).mat (t.getD j default).mat both b /\
    ((m.kind=2/\u=delL (putM (putM t i both) j both) j (j+1))\/(m.kind=3/\u=delL (putM (putM t i both) j both) i (i+1))))
theorem Jn.uniq {t u v:List Rule} {m:Merg} (h:Jn t m u) (k:Jn t m v):u=v:=by
  rcases h with ⟨a1,a2,i,a3,a4,a5⟩|⟨i,j,both,b,a1,a2,a3,a4,a5,a6,a7⟩
  . rcases k with ⟨b1,b2,i',b3,b4,b5⟩|⟨i',j',both',b',b1,b2,b3,b4,b5,b6,b7⟩
    . obtain rfl:i=i':=by omega
      rw [a5,b5]
    . rcases b7 with ⟨b7,_⟩|⟨b7,_⟩<;>omega
  . rcases k with ⟨b1,b2,i',b3,b4,b5⟩|⟨i',j',both',b',b1,b2,b3,b4,b5,b6,b7⟩
    . rcases a7 with ⟨a7,_⟩|⟨a7,_⟩<;>omega
    . obtain rfl:i=i':=by omega
      obtain rfl:j=j':=by omega
      obtain rfl:=a6.uniq b6;rcases a7 with ⟨a7,e1⟩|⟨a7,e1⟩<;>rcases b7 with ⟨b7,e2⟩|⟨b7,e2⟩
      . rw [e1,e2]
      . omega
      . omega
      . rw [e1,e2]
def yaf (t:List Rule) (m:Merg) (r:List Rule×Int):Prop:=(r.2=0/\Jn t m r.1)\/(r=([],1)/\∀ u,¬ Jn t m u)
theorem yaf.uniq {t:List Rule} {m:Merg} {r s:List Rule×Int} (h:yaf t m r) (k:yaf t m s):r=s:=by
  rcases h with ⟨h1,h2⟩|⟨h1,h2⟩
  . rcases k with ⟨k1,k2⟩|⟨k1,k2⟩
    . have:=h2.uniq k2;cases r;cases s;simp only at h1 k1 this;rw [h1,k1,this]
    . exact absurd h2 (k2 _)
  . rcases k with ⟨k1,k2⟩|⟨k1,k2⟩
    . exact absurd k2 (h2 _)
    . rw [h1,k1]
theorem zxe {k:Nat} {t:List Rule} {m:Merg} (ht:zko t) (hr:∀ r,r∈t->zaf r.mat=true) (hl:t.length<=1000) (hk:big<=k):∃ r,zg1 k t m=some r/\yaf t m r:=by
  have hk10:10<k:=by simp only [big] at hk;omega
  unfold zg1;by_cases a1:m.i<0
  . rw [zAc a1,ff,zAc rfl];exact ⟨_,rfl,.inr ⟨rfl,fun u h=>by rcases h with ⟨_,_,i,e,_⟩|⟨i,j,_,_,e,_⟩<;>omega⟩⟩
  by_cases a2:(t.length:Int)<=m.i
  . rw [zAd a1,ff,zAc (zAa a2)];exact ⟨_,rfl,.inr ⟨rfl,fun u h=>by rcases h with ⟨_,_,i,e,_⟩|⟨i,j,_,_,e,_⟩<;>omega⟩⟩
  obtain ⟨i,hi⟩:=jt (show 0<=m.i by omega);have hi2:i<t.length:=by omega
  rw [zAd a1,ff,zAd (by rw [decide_eq_true_eq];exact a2)];by_cases a3:m.kind=1
  . rw [zAc a3];by_cases a4:m.k=0
    . rw [zAd (fun h=>h a4),zAc (by omega),hi,za4 i (by omega)];unfold zmw;rw [zAc ⟨rfl,by omega,by omega,by omega,by omega⟩,ff,jk,jk];exact ⟨_,rfl,.inl ⟨rfl,.inl ⟨a3,a4,i,hi,hi2,rfl⟩⟩⟩
    . rw [zAc a4];exact ⟨_,rfl,.inr ⟨rfl,fun u h=>by rcases h with ⟨_,e,_⟩|⟨i,j,_,_,_,_,_,_,_,_,⟨e,_⟩|⟨e,_⟩⟩<;>omega⟩⟩
  rw [zAd a3];by_cases a5:m.kind=2\/m.kind=3
  rotate_left
  . rw [zAd (fun h=>a5 (.inl h)),ff,zAd (by rw [decide_eq_true_eq];exact fun h=>a5 (.inr h))];exact ⟨_,rfl,.inr ⟨rfl,fun u h=>by rcases h with ⟨e,_⟩|⟨i,j,_,_,_,_,_,_,_,_,⟨e,_⟩|⟨e,_⟩⟩<;>omega⟩⟩
  have e5:(if m.kind=2 then some true else some (decide (m.kind=3)):Option Bool)=some true:=by
    by_cases c:m.kind=2
    . rw [zAc c]
    . rw [zAd c,zAa (a5.resolve_left c)]
  rw [e5,ff,zAc rfl];by_cases a6:m.k<=m.i
  . rw [zAc a6,ff,zAc rfl];exact ⟨_,rfl,.inr ⟨rfl,fun u h=>by rcases h with ⟨e,_⟩|⟨i,j,_,_,_,_,_,_⟩<;>omega⟩⟩
  by_cases a7:(t.length:Int)<=m.k
  . rw [zAd a6,zAc a7,ff,zAc rfl];exact ⟨_,rfl,.inr ⟨rfl,fun u h=>by rcases h with ⟨e,_⟩|⟨i,j,_,_,_,_,_,_⟩<;>omega⟩⟩
  obtain ⟨j,hj⟩:=jt (show 0<=m.k by omega);have hj2:j<t.length:=by omega
  have hij:i<j:=by omega
  have mi:t.getD i default∈t:=zch hi2;have mj:t.getD j default∈t:=zch hj2;rw [zAd a6,zAd a7,zAc ⟨by omega,by omega⟩,zAc ⟨by omega,by omega⟩,hi,hj,ziu,ziu,z4m _ _ (ht.2 _ mi) hk,ff,ff];by_cases a8:zqm (t.getD i default) (t.getD j default)
  rotate_left
  . rw [zAb a8,zAc (show (!false)=true from rfl)];refine ⟨_,rfl,.inr ⟨rfl,fun u h=>?_⟩⟩;rcases h with ⟨e,_⟩|⟨i',j',_,_,b1,b2,_,_,b3,_⟩
    . omega
    . obtain rfl:i=i':=by have:(i:Int)=i':=hi.symm.trans b1;omega
      obtain rfl:j=j':=by have:(j:Int)=j':=hj.symm.trans b2;omega
      exact a8 b3
  obtain ⟨q,q1,q2⟩:=z3g (k:=k) (hr _ mi) (hr _ mj) hk10;rw [zAa a8,zAd (by simp),zAc ⟨by omega,by omega⟩,zAc ⟨by omega,by omega⟩,q1,ff];rcases q2 with ⟨c1,b,c2⟩|⟨c1,c2⟩
  . rw [zAc c1,zAc (by omega),jk,jk,zAc hi2,zAc (by rw [List.length_set];exact hj2)];change ∃ r,((if m.kind=3 then some (i:Int) else some (j:Int)).bind fun s_4=>(zmw k t.length (putM (putM t i q.1) j q.1) s_4 (fi.wrap (s_4+1))).bind fun cr=>some (cr,0))=some r/\yaf t m r;by_cases a9:m.kind=3
    . rw [zAc a9,ff,za4 i (by omega)];unfold zmw;rw [zAc ⟨by rw [zfj,zfj],by omega,by omega,by omega,by omega⟩,ff,jk,jk];exact ⟨_,rfl,.inl ⟨rfl,.inr ⟨i,j,q.1,b,hi,hj,hij,hj2,a8,c2,.inr ⟨a9,rfl⟩⟩⟩⟩
    . rw [zAd a9,ff,za4 j (by omega)];unfold zmw;rw [zAc ⟨by rw [zfj,zfj],by omega,by omega,by omega,by omega⟩,ff,jk,jk];exact ⟨_,rfl,.inl ⟨rfl,.inr ⟨i,j,q.1,b,hi,hj,hij,hj2,a8,c2,.inl ⟨a5.resolve_right a9,rfl⟩⟩⟩⟩
  . rw [c1,zAd (by simp)];refine ⟨_,rfl,.inr ⟨rfl,fun u h=>?_⟩⟩;rcases h with ⟨e,_⟩|⟨i',j',both,b',b1,b2,_,_,_,b3,_⟩
    . omega
    . obtain rfl:i=i':=by have:(i:Int)=i':=hi.symm.trans b1;omega
      obtain rfl:j=j':=by have:(j:Int)=j':=hj.symm.trans b2;omega
      exact c2 ⟨_,_,b3⟩
theorem z6k {k:Nat} {t:List Rule} {m:Merg} {q:Pat×Bool} {i j o:Nat} (hi:m.i=(i:Int)) (hj:m.k=(j:Int)) (hij:i<j) (hkd:(m.kind=2/\o=j)\/(m.kind=3/\o=i)) (hl:t.length<=1000):∀ c x,x<=t.length->t.length - x<c ->
    zbw k t m q c (x:Int) (woI (putM (putM t i q.1) j q.1) [(o:Int)] x) (woI (putM (putM t i q.1) j q.1) [(o:Int)] x).length=some (wo (putM (putM t i q.1) j q.1) [(o:Int)],(wo (putM (putM t i q.1) j q.1) [(o:Int)]).length):=by
  intro c
  induction c with
  |zero=>intro x h1 h2;omega
  |succ c ih =>
    intro x h1 h2;have hlen:(putM (putM t i q.1) j q.1).length=t.length:=by rw [zfj,zfj]
    rw [zbw];by_cases cx:x<t.length
    . have hw:=yan (putM (putM t i q.1) j q.1) [(o:Int)] x;have hs:=zyo (t:=putM (putM t i q.1) j q.1) (l:=[(o:Int)]) (i:=x) (by rw [hlen];exact cx);have hx:(putM (putM t i q.1) j q.1)[x]'(by rw [hlen];exact cx)=(putM (putM t i q.1) j q.1).getD x default:=by rw [fo,fk (by rw [hlen];exact cx)];rfl
      rw [hx,z6o cx] at hs;have ih:=ih (x+1) (by omega) (by omega);rw [hs] at ih
      have e5:(if (x:Int)=m.i then some true else some (decide ((x:Int)=m.k)):Option Bool)=some (decide (x=i\/x=j)):=by
        rw [hi,hj];by_cases c1:x=i
        . rw [zAc (by omega),zAa (.inl c1)]
        . rw [zAd (by omega)];congr 1;rw [ku,decide_eq_true_eq,decide_eq_true_eq];omega
      rw [zAc (zaq cx),zAc ⟨by omega,zaq cx⟩,e5,ff,ziu,za4 x (by omega)]
      have e6:(if decide (x=i\/x=j)=true then some (q.1.mask,q.1.bits) else some ((t.getD x default).mat.mask,(t.getD x default).mat.bits):Option (Ar 10×Ar 10))=some ((if x=i\/x=j then q.1 else (t.getD x default).mat).mask,(if x=i\/x=j then q.1 else (t.getD x default).mat).bits):=by
        by_cases c1:x=i\/x=j
        . rw [zAc (zAa c1),zAc c1]
        . rw [zAd (by rw [decide_eq_true_eq];exact c1),zAd c1]
      rw [e6,ff]
      have e7:(if x=i\/x=j then { t.getD x default with mat:=q.1 } else t.getD x default:Rule)=⟨(t.getD x default).prio,⟨(if x=i\/x=j then q.1 else (t.getD x default).mat).mask,(if x=i\/x=j then q.1 else (t.getD x default).mat).bits⟩,(t.getD x default).step,(t.getD x default).outs⟩:=by
        by_cases c1:x=i\/x=j
        . rw [zAc c1,zAc c1]
        . rw [zAd c1,zAd c1]
      rw [e7] at ih;rcases hkd with ⟨d1,d2⟩|⟨d1,d2⟩
      . rw [zAc d1];by_cases c1:x=j
        . rw [zAc (by omega)];rw [zAc (by rw [gu];omega)] at ih;exact ih
        . rw [zAd (by omega),zAc (by omega)];rw [zAd (by rw [gu];omega),fx,ip] at ih;exact ih
      . rw [zAd (by omega),zAc d1];by_cases c1:x=i
        . rw [zAc (by omega)];rw [zAc (by rw [gu];omega)] at ih;exact ih
        . rw [zAd (by omega),zAc (by omega)];rw [zAd (by rw [gu];omega),fx,ip] at ih;exact ih
    . obtain rfl:x=t.length:=by omega
      rw [zAd (by omega)];unfold wo;rw [hlen]
theorem z6l {k:Nat} {t:List Rule} {m:Merg} (ht:zko t) (hr:∀ r,r∈t->zaf r.mat=true) (hl:t.length<=1000) (hk:big<=k):∃ r,zk2 k t m=some r/\yaf t m r:=by
  have hk160:160<k:=by simp only [big] at hk;omega
  unfold zk2;by_cases a1:m.i<0
  . rw [zAc a1,ff,zAc rfl];exact ⟨_,rfl,.inr ⟨rfl,fun u h=>by rcases h with ⟨_,_,i,e,_⟩|⟨i,j,_,_,e,_⟩<;>omega⟩⟩
  by_cases a2:(t.length:Int)<=m.i
  . rw [zAd a1,ff,zAc (zAa a2)];exact ⟨_,rfl,.inr ⟨rfl,fun u h=>by rcases h with ⟨_,_,i,e,_⟩|⟨i,j,_,_,e,_⟩<;>omega⟩⟩
  obtain ⟨i,hi⟩:=jt (show 0<=m.i by omega);have hi2:i<t.length:=by omega
  rw [zAd a1,ff,zAd (by rw [decide_eq_true_eq];exact a2)];by_cases a3:m.kind=1
  . rw [zAc a3];by_cases a4:m.k=0
    . rw [zAd (fun h=>h a4),hi,z4c t _ hl (by simp) hk,ff,yam hi2];exact ⟨_,rfl,.inl ⟨rfl,.inl ⟨a3,a4,i,hi,hi2,rfl⟩⟩⟩
    . rw [zAc a4];exact ⟨_,rfl,.inr ⟨rfl,fun u h=>by rcases h with ⟨_,e,_⟩|⟨i,j,_,_,_,_,_,_,_,_,⟨e,_⟩|⟨e,_⟩⟩<;>omega⟩⟩
  rw [zAd a3];by_cases a5:m.kind=2\/m.kind=3
  rotate_left
  . rw [zAc (fun h=>a5 (.inl h)),zAc (fun h=>a5 (.inr h)),ff,zAc rfl];exact ⟨_,rfl,.inr ⟨rfl,fun u h=>by rcases h with ⟨e,_⟩|⟨i,j,_,_,_,_,_,_,_,_,⟨e,_⟩|⟨e,_⟩⟩<;>omega⟩⟩
  have e5:(if m.kind≠2 then (if m.kind≠3 then some true else (if m.k<=m.i then some true else some (decide ((t.length:Int)<=m.k)))) else (if m.k<=m.i then some true else some (decide ((t.length:Int)<=m.k))):Option Bool)=some (decide (m.k<=m.i\/(t.length:Int)<=m.k)):=by
    have e0:(if m.k<=m.i then some true else some (decide ((t.length:Int)<=m.k)):Option Bool)=some (decide (m.k<=m.i\/(t.length:Int)<=m.k)):=by
      by_cases c:m.k<=m.i
      . rw [zAc c,zAa (.inl c)]
      . rw [zAd c];congr 1;rw [ku,decide_eq_true_eq,decide_eq_true_eq];omega
    rw [e0];by_cases c:m.kind=2
    . rw [zAd (fun h=>h c)]
    . rw [zAc c,zAd (fun h=>h (a5.resolve_left c))]
  rw [e5,ff];by_cases a6:m.k<=m.i\/(t.length:Int)<=m.k
  . rw [zAc (zAa a6)];exact ⟨_,rfl,.inr ⟨rfl,fun u h=>by rcases h with ⟨e,_⟩|⟨i,j,_,_,_,_,_,_⟩<;>omega⟩⟩
  obtain ⟨j,hj⟩:=jt (show 0<=m.k by omega);have hj2:j<t.length:=by omega
  have hij:i<j:=by omega
  have mi:t.getD i default∈t:=zch hi2;have mj:t.getD j default∈t:=zch hj2;obtain ⟨q,q1,q2⟩:=yf5 (k:=k) (hr _ mi) (hr _ mj) hk160;rw [zAd (by rw [decide_eq_true_eq];exact a6),zAc ⟨by omega,by omega⟩,zAc ⟨by omega,by omega⟩];have g1:gx t m.i=t.getD i default:=by rw [hi];rfl
  have g2:gx t m.k=t.getD j default:=by rw [hj];rfl
  rw [g1,g2,yb9 _ _ (ht.2 _ mi) hk,ff,q1,ff];by_cases a8:zqm (t.getD i default) (t.getD j default)
  rotate_left
  . rw [zAd (by rw [decide_eq_true_eq];exact a8),ff,zAc rfl];refine ⟨_,rfl,.inr ⟨rfl,fun u h=>?_⟩⟩;rcases h with ⟨e,_⟩|⟨i',j',_,_,b1,b2,_,_,b3,_⟩
    . omega
    . obtain rfl:i=i':=by have:(i:Int)=i':=hi.symm.trans b1;omega
      obtain rfl:j=j':=by have:(j:Int)=j':=hj.symm.trans b2;omega
      exact a8 b3
  rw [zAc (zAa a8),ff];rcases q2 with ⟨c1,b,c2⟩|⟨c1,c2⟩
  . rw [zAd (by rw [c1];simp)];have hV:(putM (putM t i q.1) j q.1).length=t.length:=by rw [zfj,zfj]
    rcases a5 with a5|a5
    . have:=z6k (k:=k) (q:=q) (o:=j) hi hj hij (.inl ⟨a5,rfl⟩) hl k 0 (ir _) (by simp only [big] at hk;omega);rw [show ((0:Nat):Int)=0 from rfl] at this;change zbw k t m q k 0 [] 0=_ at this;rw [this,ff,zAc rfl,yam (by rw [hV];exact hj2)];exact ⟨_,rfl,.inl ⟨rfl,.inr ⟨i,j,q.1,b,hi,hj,hij,hj2,a8,c2,.inl ⟨a5,rfl⟩⟩⟩⟩
    . have:=z6k (k:=k) (q:=q) (o:=i) hi hj hij (.inr ⟨a5,rfl⟩) hl k 0 (ir _) (by simp only [big] at hk;omega);rw [show ((0:Nat):Int)=0 from rfl] at this;change zbw k t m q k 0 [] 0=_ at this;rw [this,ff,zAc rfl,yam (by rw [hV];exact hi2)];exact ⟨_,rfl,.inl ⟨rfl,.inr ⟨i,j,q.1,b,hi,hj,hij,hj2,a8,c2,.inr ⟨a5,rfl⟩⟩⟩⟩
  . rw [c1,zAc (by simp)];refine ⟨_,rfl,.inr ⟨rfl,fun u h=>?_⟩⟩;rcases h with ⟨e,_⟩|⟨i',j',both,b',b1,b2,_,_,_,b3,_⟩
    . omega
    . obtain rfl:i=i':=by have:(i:Int)=i':=hi.symm.trans b1;omega
      obtain rfl:j=j':=by have:(j:Int)=j':=hj.symm.trans b2;omega
      exact c2 ⟨_,_,b3⟩
def z9b (t u:List Rule):Prop:=∀ h,zac h=true->hd t h=hd u h
theorem yfu {k:Nat} {t u:List Rule} {F:List Nat} (ht:Lit t F) (hu:Lit u F) (lt:t.length<=300) (lu:u.length<=300) (ot:zko t) (hk:big<=k):∃ x b,zha k t u=some (x,b)/\(b=true↔z9b t u):=by
  obtain ⟨x,f,e,h⟩:=z3q ht hu lt lu ot hk;refine ⟨x,!f,e,fun hb y hy=>?_,fun hs=>?_⟩
  . cases f with
    |false=>exact zl5.same h hy
    |true=>cases hb
  . rw [zl5.of_same h hs];rfl
theorem ynm {k:Nat} {t u:List Rule} {F:List Nat} (ht:Lit t F) (hu:Lit u F) (lt:t.length<=300) (lu:u.length<=300) (ot:zko t) (hk:big<=k):∃ x b,zjf k t u=some (x,b)/\(b=true↔z9b t u):=by
  obtain ⟨x,f,e,h⟩:=ycc ht hu lt lu ot hk;refine ⟨x,!f,e,fun hb y hy=>?_,fun hs=>?_⟩
  . cases f with
    |false=>exact zl5.same h hy
    |true=>cases hb
  . rw [zl5.of_same h hs];rfl
structure RtT (n:Net) (t:List Rule) (F:List Nat):Prop where
  lit:Lit t F
  len:t.length<=100
  ok:zko t
  formed:∀ r,r∈t->formed n 1000 r=true
  dec:(t.map fun r=>r.prio).Pairwise (· > ·)
theorem RtT.of_check {n:Net} {t:List Rule} {F:List Nat} (h:(znl n 1000 t).2=0) (hl:Lit t F) (h100:t.length<=100) (ho:zko t):RtT n t F:=by
  obtain ⟨_,hg⟩:=z24 h;refine ⟨hl,h100,ho,yed h,?_⟩
  have adj:∀ j,j+1<t.length->(t.getD (j+1) default).prio<(t.getD j default).prio:=fun j hj=>by
    have:=hg (j+1) hj;unfold znf at this;rw [fj,decide_eq_true_eq] at this;have h2:=this.2;unfold ydi at h2;rw [zAd (by omega),show ((j+1:Nat):Int) - 1=(j:Int) by omega,ziu] at h2;exact h2
  have far:∀ d i,i+d+1<t.length->(t.getD (i+d+1) default).prio<(t.getD i default).prio:=by
    intro d
    induction d with
    |zero=>intro i hi;exact adj i hi
    |succ d ih =>
      intro i hi;have a:=ih i (by omega);have b:=adj (i+d+1) (by omega);rw [show i+(d+1)+1=i+d+1+1 by omega];omega
  rw [List.pairwise_iff_getElem];intro i j hi hj hij;rw [fq] at hi hj;rw [pf,pf];have:=far (j - i - 1) i (by omega);rw [show i+(j - i - 1)+1=j by omega,fo,fk hj,fo,fk hi] at this;exact this
theorem z40 {n:Net} {r:Rule} (h:formed n 1000 r=true):1<=r.prio/\r.prio<=65535:=by
  unfold formed at h;rw [fj,decide_eq_true_eq] at h;exact h.1
theorem RtT.check {n:Net} {t:List Rule} {F:List Nat} (h:RtT n t F):(znl n 1000 t).2=0:=by
  have hl:=h.len;unfold znl;rw [zAd (by omega),zAd (by omega)]
  have:(kg t.length).findSome? (fun j=>if znf n 1000 t j=true then none else some ((j:Int),(1:Int)))=none:=by
    rw [List.findSome?_eq_none_iff];intro j hj;have hj:=List.mem_range.1 hj;have hf:=h.formed _ (zch hj);rw [zAc];unfold znf;rw [fj,decide_eq_true_eq];refine ⟨hf,?_⟩;unfold ydi;by_cases c:j=0
    . subst c;rw [zAc (by rfl)];have:=(z40 hf).2;omega
    . rw [zAd (by omega),show ((j:Nat):Int) - 1=((j - 1:Nat):Int) by omega,ziu];have:=List.pairwise_iff_getElem.1 h.dec (j - 1) j (by rw [fq];omega) (by rw [fq];exact hj) (by omega);rw [pf,pf] at this;rw [fo,fk hj,fo,fk (show j - 1<t.length by omega)];exact this
  rw [this]
theorem zkd {l:List Rule} {o:Nat} {r:Rule} (h:r∈delL l o (o+1)):r∈l:=by
  unfold delL at h;rcases io.1 h with h|h
  . exact nv h
  . exact List.mem_of_mem_drop h
theorem z79 (l:List Rule) (o:Nat):(delL l o (o+1)).Sublist l:=by
  unfold delL;have h:(l.take o++l.drop (o+1)).Sublist (l.take o++l.drop o):=List.Sublist.append (List.Sublist.refl _) (by rw [<- List.drop_drop];exact List.drop_sublist 1 _);rw [i9] at h;exact h
theorem z8a {l:List Rule} {o:Nat} (ho:o<l.length):(delL l o (o+1)).length+1=l.length:=by rw [zz5 (by omega) (by omega)];omega
theorem z1e {t:List Rule} {i:Nat} {m:Pat}:(putM t i m).map (fun r=>r.prio)=t.map fun r=>r.prio:=by
  unfold putM;rw [List.map_set];by_cases h:i<t.length
  . have e:(t.getD i default).prio=(t.map fun r=>r.prio)[i]'(by rw [fq];exact h):=by rw [pf,fo,fk h];rfl
    show (t.map fun r=>r.prio).set i (t.getD i default).prio=_;rw [e,List.set_getElem_self]
  . rw [List.set_eq_of_length_le (by rw [fq];omega)]
theorem zsh {t:List Rule} {i j:Nat} {m:Pat} (hij:i<j) (hj:j<t.length) {r:Rule} (h:r∈putM (putM t i m) j m):r∈t\/∃ s,s∈t/\r={ s with mat:=m }:=by
  have h1:=List.mem_or_eq_of_mem_set h;rcases h1 with h1|h1
  . rcases List.mem_or_eq_of_mem_set h1 with h2|h2
    . exact .inl h2
    . exact .inr ⟨_,zch (show i<t.length by omega),h2⟩
  . rw [zsg hj,zAd (by omega)] at h1;exact .inr ⟨_,zch hj,h1⟩
theorem z90 {n:Net} {r:Rule} {m:Pat} (h:formed n 1000 r=true) (hm:zaf m=true):formed n 1000 { r with mat:=m }=true:=by
  unfold formed at h ⊢;simp only [fj] at h ⊢;exact ⟨h.1,hm,h.2.2⟩
theorem Jn.keep {n:Net} {t u:List Rule} {F:List Nat} {m:Merg} (R:RtT n t F) (h:Jn t m u):RtT n u F/\u.length+1=t.length:=by
  rcases h with ⟨_,_,i,_,hi,rfl⟩|⟨i,j,both,b,_,_,hij,hj,_,hJ,hu⟩
  . have hl:=z8a hi;have hR:=R.len;refine ⟨⟨⟨by have:=R.lit.len;omega,fun r hr=>R.lit.right r (zkd hr),R.lit.few,fun r hr=>R.lit.mask r (zkd hr)⟩,by omega,⟨by have:=R.ok.1;omega,fun r hr=>R.ok.2 r (zkd hr)⟩,fun r hr=>R.formed r (zkd hr),R.dec.sublist ((z79 t i).map _)⟩,hl⟩
  . have hV:(putM (putM t i both) j both).length=t.length:=by rw [zfj,zfj]
    have mi:t.getD i default∈t:=zch (by omega);have hb:=hJ.right (R.lit.right _ mi)
    have hmask:∀ x,x<160->hbit both.mask x=true->x∈F:=fun x hx hm=>by
      rw [hJ.mask x hx,fj] at hm;exact R.lit.mask _ mi x hx hm.1
    have key:∀ o,o<t.length->RtT n (delL (putM (putM t i both) j both) o (o+1)) F/\(delL (putM (putM t i both) j both) o (o+1)).length+1=t.length:=fun o ho=>by
      have hl:=z8a (l:=putM (putM t i both) j both) (o:=o) (by rw [hV];exact ho);rw [hV] at hl;have hR:=R.len;refine ⟨⟨⟨by have:=R.lit.len;omega,fun r hr=>?_,R.lit.few,fun r hr=>?_⟩,by omega,⟨by have:=R.ok.1;omega,fun r hr=>?_⟩,fun r hr=>?_,?_⟩,hl⟩
      . rcases zsh hij hj (zkd hr) with h|⟨s,_,rfl⟩
        . exact R.lit.right r h
        . exact hb
      . rcases zsh hij hj (zkd hr) with h|⟨s,_,rfl⟩
        . exact R.lit.mask r h
        . exact hmask
      . rcases zsh hij hj (zkd hr) with h|⟨s,hs,rfl⟩
        . exact R.ok.2 r h
        . exact R.ok.2 s hs
      . rcases zsh hij hj (zkd hr) with h|⟨s,hs,rfl⟩
        . exact R.formed r h
        . exact z90 (R.formed s hs) hb
      . have:=R.dec;rw [<- z1e (t:=t) (i:=i) (m:=both),<- z1e (t:=putM t i both) (i:=j) (m:=both)] at this;exact this.sublist ((z79 _ o).map _)
    rcases hu with ⟨_,rfl⟩|⟨_,rfl⟩
    . exact key j hj
    . exact key i (by omega)
theorem znd (r:Rule) (t:List Rule) (h:Ar 10):hd (r :: t) h=if zap r.mat h=true then (r.step,r.outs) else hd t h:=by
  unfold hd;rw [List.find?_cons];cases zap r.mat h<;>rfl
theorem yjh (a b c:List Rule) (h:Ar 10) (e:hd b h=hd c h):hd (a++b) h=hd (a++c) h:=by
  induction a with
  |nil=>exact e
  |cons r a ih=>rw [gq,gq,znd,znd,ih]
theorem z5y {t:List Rule} {o:Nat} (ho:o<t.length):t=t.take o++t.getD o default :: t.drop (o+1):=by
  have:t.getD o default=t[o]:=by rw [fo,fk ho];rfl
  rw [this,<- ko ho,i9]
theorem yjg {t:List Rule} {o:Nat} {h:Ar 10} (ho:o<t.length) (hm:zap (t.getD o default).mat h=false):hd (delL t o (o+1)) h=hd t h:=by
  conv=>rhs;rw [z5y ho]
  unfold delL;refine yjh _ _ _ _ ?_;rw [znd,zAd (by rw [hm];simp)]
theorem yjf {t:List Rule} {i:Nat} {m:Pat} {h:Ar 10} (hi:i<t.length) (h1:zap (t.getD i default).mat h=false) (h2:zap m h=false):hd (putM t i m) h=hd t h:=by
  conv=>rhs;rw [z5y hi]
  unfold putM;rw [List.set_eq_take_append_cons_drop,zAc hi];refine yjh _ _ _ _ ?_;rw [znd,znd,zAd (show ¬ zap m h=true by rw [h2];simp),zAd (by rw [h1];simp)]
theorem zmf.into {p q r:Pat} {i:Nat} (h:zmf p q r i) {x:Ar 10} (hm:zap p x=true\/zap q x=true):zap r x=true:=by
  refine zas.2 fun j hj hb=>?_;rw [h.mask j hj,fj] at hb;have hne:j≠i:=by simpa using hb.2
  rw [h.bits j hj,zAb hne];rcases hm with hm|hm
  . rw [zas.1 hm j hj hb.1];simp
  . rw [h.one j hj hne,zas.1 hm j hj (by rw [<- h.eq];exact hb.1)];simp
def Pm (t:List Rule) (m:Merg) (p:Pat):Prop:=(m.kind=1/\p=(t.getD m.i.toNat default).mat)\/(m.kind≠1/\∃ b,zmf (t.getD m.i.toNat default).mat (t.getD m.k.toNat default).mat p b)
theorem Jn.outside {t u:List Rule} {m:Merg} {p:Pat} (h:Jn t m u) (hp:Pm t m p) {x:Ar 10} (hx:zap p x=false):hd t x=hd u x:=by
  rcases h with ⟨h1,_,i,h2,hi,rfl⟩|⟨i,j,both,b,h1,h2,hij,hj,_,hJ,hu⟩
  . rcases hp with ⟨_,rfl⟩|⟨h3,_⟩
    . rw [h2,jk] at hx;exact (yjg hi hx).symm
    . exact absurd h1 h3
  . have hk:m.kind≠1:=by rcases hu with ⟨e,_⟩|⟨e,_⟩<;>omega
    rcases hp with ⟨h3,_⟩|⟨_,b',hp⟩
    . exact absurd h3 hk
    . rw [h1,h2,jk,jk] at hp;obtain rfl:=hp.uniq hJ
      have a1:zap (t.getD i default).mat x=false:=by
        cases c:zap (t.getD i default).mat x with
        |false=>rfl
        |true=>rw [hJ.into (.inl c)] at hx;cases hx
      have a2:zap (t.getD j default).mat x=false:=by
        cases c:zap (t.getD j default).mat x with
        |false=>rfl
        |true=>rw [hJ.into (.inr c)] at hx;cases hx
      have e1:=yjf (m:=p) (show i<t.length by omega) a1 hx;have hj1:j<(putM t i p).length:=by rw [zfj];exact hj
      have e2:=yjf (t:=putM t i p) (m:=p) hj1 (by rw [zsg hj,zAd (by omega)];exact a2) hx
      have g:∀ o,o<t.length->(o=i\/o=j)->hd (delL (putM (putM t i p) j p) o (o+1)) x=hd (putM (putM t i p) j p) x:=fun o ho ho2=>by
        refine yjg (by rw [zfj,zfj];exact ho) ?_;rw [z6o ho,zAc ho2];exact hx
      rcases hu with ⟨_,rfl⟩|⟨_,rfl⟩
      . rw [g j hj (.inr rfl),e2,e1]
      . rw [g i (by omega) (.inl rfl),e2,e1]
def aR (k:Nat) (p q:Pat):Pat×Bool:=(zik k p q).getD (p,false)
theorem yhm {k:Nat} {p q:Pat} (hp:zaf p=true) (hq:zaf q=true) (hk:10<k):zik k p q=some (aR k p q)/\((zdi p q=false/\(aR k p q).2=false)\/(zdi p q=true/\(aR k p q).2=true/\Meet p q (aR k p q).1)):=by
  obtain ⟨r,e,h⟩:=z8x hp hq hk;unfold aR;rw [e];exact ⟨rfl,h⟩
def cutR (k:Nat) (p:Pat) (r:Rule):List Rule:=if (aR k r.mat p).2=true then [{ r with mat:=(aR k r.mat p).1 }] else []
def cutT (k:Nat) (p:Pat) (t:List Rule):List Rule:=t.flatMap (cutR k p)
theorem zn8 (k:Nat) (p:Pat):∀ t:List Rule,(cutT k p t).length<=t.length
  |[]=>fp _
  |r :: t=>by
    have:=zn8 k p t;unfold cutT at this ⊢;rw [jb,fx,gh];have:(cutR k p r).length<=1:=by unfold cutR;split<;>simp
    omega
theorem yep (k:Nat) (p:Pat) (t:List Rule) (r:Rule):cutT k p (t++[r])=cutT k p t++cutR k p r:=by unfold cutT;rw [List.flatMap_append,List.flatMap_singleton]
theorem zz6 {k:Nat} {p:Pat} {t:List Rule} {r:Rule} (h:r∈cutT k p t):∃ s,s∈t/\(aR k s.mat p).2=true/\r={ s with mat:=(aR k s.mat p).1 }:=by
  unfold cutT at h;obtain ⟨s,hs,h⟩:=List.mem_flatMap.1 h;unfold cutR at h;split at h
  . rename_i hb;exact ⟨s,hs,hb,by simpa using h⟩
  . simp at h
theorem z8c {k:Nat} {p:Pat} {t:List Rule} {F:List Nat} (h:Lit t F) (hp:zaf p=true) (hpF:∀ j,j<160->hbit p.mask j=true->j∈F) (hk:10<k):Lit (cutT k p t) F:=by
  refine ⟨jv (zn8 k p t) h.len,fun r hr=>?_,h.few,fun r hr=>?_⟩
  . obtain ⟨s,hs,hb,rfl⟩:=zz6 hr;rcases (yhm (h.right s hs) hp hk).2 with ⟨_,e⟩|⟨_,_,hM⟩
    . rw [hb] at e;cases e
    . exact hM.right (h.right s hs) hp
  . obtain ⟨s,hs,hb,rfl⟩:=zz6 hr;rcases (yhm (h.right s hs) hp hk).2 with ⟨_,e⟩|⟨_,_,hM⟩
    . rw [hb] at e;cases e
    . exact hM.into (h.mask s hs) hpF
theorem yl7 {k:Nat} {p:Pat} {t:List Rule} (h:zko t):zko (cutT k p t):=by
  refine ⟨Nat.lt_of_le_of_lt (zn8 k p t) h.1,fun r hr=>?_⟩;obtain ⟨s,hs,_,rfl⟩:=zz6 hr;exact h.2 s hs
theorem z2e {k:Nat} {p:Pat} {x:Ar 10} (hp:zaf p=true) (hk:10<k):∀ t:List Rule,(∀ r,r∈t->zaf r.mat=true)->hd (cutT k p t) x=if zap p x=true then hd t x else (-1,[])
  |[],_=>by
    show hd [] x=_
    split<;>rfl
  |r :: t,hr=>by
    have ih:=z2e (x:=x) hp hk t fun s hs=>hr s (.tail _ hs);have e:cutT k p (r :: t)=cutR k p r++cutT k p t:=by unfold cutT;rw [jb]
    rw [e];rcases (yhm (hr r (.head _)) hp hk).2 with ⟨ho,hb⟩|⟨ho,hb,hM⟩
    . unfold cutR;rw [hb,zAd (by simp),gg,ih];by_cases c:zap p x=true
      . rw [zAc c,zAc c,znd,zAd];intro hm;rw [zt1 hm c] at ho;cases ho
      . rw [zAd c,zAd c]
    . unfold cutR;rw [hb,zAc rfl,List.singleton_append,znd,ih,znd];have:=hM.match ho x
      by_cases c:zap p x=true
      . rw [zAc c,zAc c];by_cases d:zap r.mat x=true
        . rw [zAc (this.2 ⟨d,c⟩),zAc d]
        . rw [zAd (fun h=>d (this.1 h).1),zAd d]
      . rw [zAd c,zAd c,zAd (fun h=>c (this.1 h).2)]
theorem yia {k:Nat} {p:Pat} {t:List Rule} (ht:∀ r,r∈t->zaf r.mat=true) (hp:zaf p=true) (hl:t.length<=1000) (hk:big<=k):zga k t p=some (cutT k p t):=by
  have hk10:10<k:=by simp only [big] at hk;omega
  have key:∀ c i,i<=t.length->t.length - i<c->zbu k t p c (i:Int) (cutT k p (t.take i)) (cutT k p (t.take i)).length=some (cutT k p t,(cutT k p t).length):=by
    intro c
    induction c with
    |zero=>intro i h1 h2;omega
    |succ c ih =>
      intro i h1 h2;rw [zbu];by_cases ci:i<t.length
      . have hL:=zn8 k p (t.take i);rw [ik] at hL;have ih:=ih (i+1) (by omega) (by omega);rw [mb,fk ci,l6,yep] at ih;rw [zAc (zaq ci),zAc ⟨by omega,zaq ci⟩,zd8 ci,(yhm (ht _ (ju ci)) hp hk10).1,ff,za4 i (by omega)];unfold cutR at ih;by_cases hb:(aR k t[i].mat p).2=true
        . rw [zAc hb,fx,ip] at ih;rw [zAc hb,zAc (by omega)];exact ih
        . rw [zAd hb,gt] at ih;rw [zAd hb];exact ih
      . obtain rfl:i=t.length:=by omega
        rw [zAd (by omega),l9]
  have:=key k 0 (ir _) (by simp only [big] at hk;omega);rw [show ((0:Nat):Int)=0 from rfl,List.take_zero] at this;unfold zga;change zbu k t p k 0 [] 0=_ at this;rw [this,ff,zAc rfl]
def Ap (t:List Rule) (m:Merg) (u:List Rule):Prop:=Jn t m u/\z9b t u
def z0j (t:List Rule) (m:Merg) (r:List Rule×Int):Prop:=(r.2=0/\Ap t m r.1)\/(r=([],1)/\∀ u,¬ Jn t m u)\/(r=([],7)/\∃ u,Jn t m u/\¬ z9b t u)
theorem z0j.uniq {t:List Rule} {m:Merg} {r s:List Rule×Int} (h:z0j t m r) (k:z0j t m s):r=s:=by
  rcases h with ⟨h1,h2,h3⟩|⟨h1,h2⟩|⟨h1,u,h2,h3⟩
  . rcases k with ⟨k1,k2,k3⟩|⟨k1,k2⟩|⟨k1,v,k2,k3⟩
    . have:=h2.uniq k2;cases r;cases s;simp only at h1 k1 this;rw [h1,k1,this]
    . exact absurd h2 (k2 _)
    . have:=h2.uniq k2;rw [this] at h3;exact absurd h3 k3
  . rcases k with ⟨k1,k2,k3⟩|⟨k1,k2⟩|⟨k1,v,k2,k3⟩
    . exact absurd k2 (h2 _)
    . rw [h1,k1]
    . exact absurd k2 (h2 _)
  . rcases k with ⟨k1,k2,k3⟩|⟨k1,k2⟩|⟨k1,v,k2,k3⟩
    . have:=h2.uniq k2;rw [this] at h3;exact absurd k3 h3
    . exact absurd h2 (k2 _)
    . rw [h1,k1]
theorem Ap.uniq {t u v:List Rule} {m:Merg} (h:Ap t m u) (k:Ap t m v):u=v:=h.1.uniq k.1
theorem z0j.ok {t:List Rule} {m:Merg} {r:List Rule×Int} (h:z0j t m r):r.2=0↔∃ u,Ap t m u:=by
  rcases h with ⟨h1,h2⟩|⟨h1,h2⟩|⟨h1,u,h2,h3⟩
  . exact ⟨fun _=>⟨_,h2⟩,fun _=>h1⟩
  . refine ⟨fun e=>?_,fun ⟨u,a,_⟩=>absurd a (h2 u)⟩;rw [h1] at e;cases e
  . refine ⟨fun e=>?_,fun ⟨v,a,b⟩=>?_⟩
    . rw [h1] at e;cases e
    . rw [a.uniq h2] at b;exact absurd b h3
theorem z0j.ap {t:List Rule} {m:Merg} {r:List Rule×Int} (h:z0j t m r) (h0:r.2=0):Ap t m r.1:=by
  rcases h with ⟨_,h2⟩|⟨h1,_⟩|⟨h1,_⟩
  . exact h2
  . rw [h1] at h0;cases h0
  . rw [h1] at h0;cases h0
theorem yln (p:Pat):(⟨p.mask,p.bits⟩:Pat)=p:=rfl
theorem ylf {k:Nat} {n:Net} {t u:List Rule} {F:List Nat} {m:Merg} {p:Pat} (R:RtT n t F) (hJ:Jn t m u) (hP:Pm t m p) (hp:zaf p=true) (hpF:∀ j,j<160->hbit p.mask j=true->j∈F) (hk:big<=k):∃ b,zjp k t u p=some b/\(b=true↔z9b t u):=by
  have hk10:10<k:=by simp only [big] at hk;omega
  obtain ⟨Ru,hlen⟩:=hJ.keep R;have l1:=R.len;have l2:=zn8 k p t;have l3:=zn8 k p u;obtain ⟨x,b,e,hb⟩:=yfu (z8c R.lit hp hpF hk10) (z8c Ru.lit hp hpF hk10) (by omega) (by omega) (yl7 R.ok) hk;unfold zjp;rw [yia R.lit.right hp (by omega) hk,ff,yia Ru.lit.right hp (by omega) hk,ff,e,ff];refine ⟨b,rfl,hb.trans ⟨fun h y hy=>?_,fun h y hy=>?_⟩⟩
  . have:=h y hy;rw [z2e hp hk10 t R.lit.right,z2e hp hk10 u Ru.lit.right] at this;by_cases c:zap p y=true
    . rw [zAc c,zAc c] at this;exact this
    . exact hJ.outside hP (by simpa using c)
  . rw [z2e hp hk10 t R.lit.right,z2e hp hk10 u Ru.lit.right,h y hy]
theorem z4n {k:Nat} {n:Net} {t:List Rule} {F:List Nat} {m:Merg} (R:RtT n t F) (hk:big<=k):∃ r,zdx k t m=some r/\z0j t m r:=by
  have hk10:10<k:=by simp only [big] at hk;omega
  have l1:=R.len;obtain ⟨r,e,hr⟩:=zxe (m:=m) R.ok R.lit.right (by omega) hk;unfold zdx;rw [e,ff];rcases hr with ⟨h0,hJ⟩|⟨h0,hJ⟩
  . rw [zAd (fun h=>h h0)]
    have hP:∃ p,(((if m.kind≠1 then (if 0<=m.k/\m.k<(t.length:Int) then ((zh9 k ((gx t m.i).mat) ((gx t m.k).mat)).bind fun ba=>some (ba.1.mask,ba.1.bits)) else none) else some (((gx t m.i).mat).mask,((gx t m.i).mat).bits)):Option (Ar 10×Ar 10))=some (p.mask,p.bits))/\Pm t m p/\zaf p=true/\(∀ j,j<160->hbit p.mask j=true->j∈F)/\0<=m.i/\m.i<(t.length:Int):=by
      rcases hJ with ⟨h1,h2,i,h3,hi,hu⟩|⟨i,j,both,b,h1,h2,hij,hj,_,hB,hu⟩
      . have mi:t.getD i default∈t:=zch hi;refine ⟨(t.getD i default).mat,?_,.inl ⟨h1,by rw [h3,jk]⟩,R.lit.right _ mi,R.lit.mask _ mi,by omega,by omega⟩;rw [zAd (fun h=>h h1),h3];rfl
      . have mi:t.getD i default∈t:=zch (by omega);have mj:t.getD j default∈t:=zch hj;have hk1:m.kind≠1:=by rcases hu with ⟨e,_⟩|⟨e,_⟩<;>omega
        obtain ⟨q,q1,q2⟩:=z3g (k:=k) (R.lit.right _ mi) (R.lit.right _ mj) hk10
        have hq:∃ b',zmf (t.getD i default).mat (t.getD j default).mat q.1 b':=by
          rcases q2 with ⟨_,b',q3⟩|⟨_,q3⟩
          . exact ⟨b',q3⟩
          . exact absurd ⟨_,_,hB⟩ q3
        obtain ⟨b',hq⟩:=hq;refine ⟨q.1,?_,.inr ⟨hk1,b',by rw [h1,h2,jk,jk];exact hq⟩,hq.right (R.lit.right _ mi),fun x hx hm=>?_,by omega,by omega⟩
        . rw [zAc hk1,zAc ⟨by omega,by omega⟩,h1,h2,ziu,ziu,q1];rfl
        . rw [hq.mask x hx,fj] at hm;exact R.lit.mask _ mi x hx hm.1
    obtain ⟨p,e1,hP,hp,hpF,i0,i1⟩:=hP;obtain ⟨b,e2,hb⟩:=ylf R hJ hP hp hpF hk;rw [zAc ⟨i0,i1⟩,e1,ff,yln,e2,ff];by_cases c:b=true
    . rw [zAc c];exact ⟨_,rfl,.inl ⟨rfl,hJ,hb.1 c⟩⟩
    . rw [zAd c];exact ⟨_,rfl,.inr (.inr ⟨rfl,_,hJ,fun h=>c (hb.2 h)⟩)⟩
  . rw [zAc (by rw [h0];simp),h0];exact ⟨_,rfl,.inr (.inl ⟨rfl,hJ⟩)⟩
theorem yca {k:Nat} {n:Net} {t:List Rule} {F:List Nat} {m:Merg} (R:RtT n t F) (hk:big<=k):∃ r,zk3 k t m=some r/\z0j t m r:=by
  have l1:=R.len;obtain ⟨r,e,hr⟩:=z6l (m:=m) R.ok R.lit.right (by omega) hk;unfold zk3;rw [e,ff];rcases hr with ⟨h0,hJ⟩|⟨h0,hJ⟩
  . obtain ⟨Ru,hlen⟩:=hJ.keep R;obtain ⟨x,b,e2,hb⟩:=ynm R.lit Ru.lit (by omega) (by omega) R.ok hk;rw [zAd (fun h=>h h0),e2,ff];by_cases c:b=true
    . rw [zAc c];exact ⟨_,rfl,.inl ⟨rfl,hJ,hb.1 c⟩⟩
    . rw [zAd c];exact ⟨_,rfl,.inr (.inr ⟨rfl,_,hJ,fun h=>c (hb.2 h)⟩)⟩
  . rw [zAc (by rw [h0];simp),h0];exact ⟨_,rfl,.inr (.inl ⟨rfl,hJ⟩)⟩
inductive Chn:List Rule->List Merg->List Rule->Prop where
  |nil (t:List Rule):Chn t [] t
  |cons {t u v:List Rule} {m:Merg} {l:List Merg}:Ap t m u->Chn u l v->Chn t (m :: l) v
theorem Chn.keep {n:Net} {t u:List Rule} {F:List Nat} {l:List Merg} (h:Chn t l u) (R:RtT n t F):RtT n u F/\u.length+l.length=t.length/\z9b t u:=by
  induction h with
  |nil t=>exact ⟨R,rfl,fun _ _=>rfl⟩
  |cons ha _ ih =>
    obtain ⟨R1,e1⟩:=ha.1.keep R;obtain ⟨R2,e2,s2⟩:=ih R1;refine ⟨R2,by rw [gh];omega,fun y hy=>(ha.2 y hy).trans (s2 y hy)⟩
theorem Chn.uniq {t u v:List Rule} {l:List Merg} (h:Chn t l u) (k:Chn t l v):u=v:=by
  induction h with
  |nil t=>cases k;rfl
  |cons a _ ih =>
    cases k with
    |cons b c=>rw [b.uniq a] at c;exact ih c
def zbz (k:Nat) (n:Net) (t:List Rule) (m_:Merg):Option Bool:=((zpj k n t 7).bind fun fb=>(if fb=true then ((zg1 k t m_).bind fun ab=>((zk2 k t m_).bind fun ba=>((zdx k t m_).bind fun ah=>((zk3 k t m_).bind fun cn=>(((if ab.2≠ba.2 then some true else (if ah.2≠cn.2 then some true else ((zk4 k ab.1 ba.1).bind fun bu=>(if bu=true then ((zk4 k ah.1 cn.1).bind fun fc=>some (!fc)) else some true)))):Option Bool).bind fun s_=>(if s_=true then some false else (if ah.2=0 then ((zjg k n 1000 ah.1).bind fun ay=>(if ay.2=0 then some (decide ((ah.1.length:Int)=(fi.wrap ((t.length:Int) - 1)))) else some false)) else some true))))))) else some true))
theorem zjq (ax:Axs) (hx:ymv ax) (k:Nat) (n:Net) (t:List Rule) (m_:Merg) (v:Bool) (H:zbz k n t m_=some v):Pure Try.prog (EE ax) [] 3 [eNet n,zae t,zib m_] (.bool v):=by
 rw [zbz] at H;refine en [.tmp 6] 90 [0,1,2] (hx.no _ (by decide)) (fn3 ax) ?_;intro h hh;apply fg;refine rk [1,3,5] [] hh fun h hh=>?_;obtain ⟨fb,e1,H⟩:=zab H;apply fg;refine rkp [1,3,5,7] [] [.bool fb] hh ?_ ?_
 .exact ⟨gd ((z30 ax hx k n t 7 fb e1 ).call _),trivial⟩
 clear hh h;intro h hh;repeat apply fg
 refine rk [1,3,5,22] [] hh fun h hh=>?_;rcases isb H with ⟨c2,H⟩|⟨c2,H⟩;rotate_left
 .skip;refine ct (f2 hh c2) ?_;apply fg;refine rkp [6] [] [.bool true] (f2 hh c2) ?_ ?_
  .exact ⟨gd (i7 hx.san (by first|rfl|simp only [c2])),trivial⟩
  clear hh h;intro h hh;cases H;exact rt hh
 refine cf (f2 hh c2) ?_;refine sk ?_;obtain ⟨ab,e3,H⟩:=zab H;apply fg;refine rkp [1,3,5,8,9] [] [.tup [zae ab.1,.int .i64 ab.2]] (f2 hh c2) ?_ ?_
 .exact ⟨gd (i7 (zkh ax hx k t m_ ab e3 ) (by first|rfl|simp only [c2])),trivial⟩
 clear hh h;intro h hh;obtain ⟨ba,e4,H⟩:=zab H;apply fg;refine rkp [1,3,5,8,9,10,11] [] [.tup [zae ba.1,.int .i64 ba.2]] (f2 hh c2) ?_ ?_
 .exact ⟨gd (i7 (zrh ax hx k t m_ ba e4 ) (by first|rfl|simp only [c2])),trivial⟩
 clear hh h;intro h hh;obtain ⟨ah,e5,H⟩:=zab H;apply fg;refine rkp [1,3,5,8,9,10,11,12,13] [] [.tup [zae ah.1,.int .i64 ah.2]] (f2 hh c2) ?_ ?_
 .exact ⟨gd (i7 (zfx ax hx k t m_ ah e5 ) (by first|rfl|simp only [c2])),trivial⟩
 clear hh h;intro h hh;obtain ⟨cn,e6,H⟩:=zab H;apply fg;refine rkp [1,3,8,9,10,11,12,13,14,15] [] [.tup [zae cn.1,.int .i64 cn.2]] (f2 hh c2) ?_ ?_
 .exact ⟨gd (i7 (zyz ax hx k t m_ cn e6 ) (by first|rfl|simp only [c2])),trivial⟩
 clear hh h;intro h hh;obtain ⟨s_,H1,H⟩:=zab H;repeat apply fg
 refine cu [1,3,12,13,67] 2 (fun h bs=>(h 1=zae t/\h 3=.ptr 0 0 3/\h 12=zae ah.1/\h 13=.int .i64 ah.2/\h 67=.bool s_)/\bs=[.cells true 3 [zgd n.nodes,zge n.links,zgf n.edges],.cells true 3 [.int .i64 m_.kind,.int .i64 m_.i,.int .i64 m_.k]]) ?_ ?_
 .skip;rcases isp H1 with ⟨c7,H1⟩|⟨c7,H1⟩;rotate_left
  .skip;rcases isp H1 with ⟨c8,H1⟩|⟨c8,H1⟩;rotate_left
   .skip;obtain ⟨bu,e9,H1⟩:=zab H1;rcases isb H1 with ⟨c10,H1⟩|⟨c10,H1⟩;rotate_left
    .skip;refine rkp [1,3,12,13,67] [] [.bool bu] (f3 hh (zAb c7) (f3 (zAb c8) c10 c2)) ?_ ?_
     .exact ⟨gd (i7 (zmq ax hx k ab.1 ba.1 bu e9 ) (by first|rfl|simp only [c2,c10])),trivial⟩
     clear hh h;intro h hh;cases H1;exact ce hh ⟨kq hh,rfl⟩
    obtain ⟨fc,e11,H1⟩:=zab H1;refine rkp [1,3,12,13,67] [] [.bool bu,.bool fc] (f3 hh (zAb c7) (f3 (zAb c8) c10 c2)) ?_ ?_
    .exact ⟨gd (i7 (zmq ax hx k ab.1 ba.1 bu e9 ) (by first|rfl|simp only [c2,c10])),gd (i7 (zmq ax hx k ah.1 cn.1 fc e11 ) (by first|rfl|simp only [c2,c10])),trivial⟩
    clear hh h;intro h hh;cases H1;exact ce hh ⟨kq hh,rfl⟩
   refine rk [1,3,12,13,67] [] (f3 hh (zAb c7) (f2 (zAa c8) c2)) fun h hh=>?_;cases H1;exact ce hh ⟨kq hh,rfl⟩
  refine rk [1,3,12,13,67] [] (f3 hh (zAa c7) c2) fun h hh=>?_;cases H1;exact ce hh ⟨kq hh,rfl⟩
 clear hh h;rintro h bs ⟨hh,rfl⟩;rcases isb H with ⟨c12,H⟩|⟨c12,H⟩;rotate_left
 .skip;refine cf (f2 hh c12) ?_;refine sk ?_;repeat apply fg
  refine rk [1,3,12,69] [] (f3 hh c2 c12) fun h hh=>?_;rcases isp H with ⟨c13,H⟩|⟨c13,H⟩;rotate_left
  .skip;refine cf (f2 hh (zAb c13)) ?_;refine sk ?_;apply fg;refine rkp [6] [] [.bool true] (f3 hh c2 c12) ?_ ?_
   .exact ⟨gd (i7 hx.san (by first|rfl|simp only [c2,c12])),trivial⟩
   clear hh h;intro h hh;cases H;exact rt hh
  refine ct (f2 hh (zAa c13)) ?_;obtain ⟨ay,e14,H⟩:=zab H;apply fg;refine rkp [1,12,17] [] [.tup [.int .i64 ay.1,.int .i64 ay.2]] (f3 hh c2 c12) ?_ ?_
  .exact ⟨gd (i7 (zpc ax hx k n 1000 ah.1 ay e14 ) (by first|rfl|simp only [c2,c12])),trivial⟩
  clear hh h;intro h hh;rcases isp H with ⟨c15,H⟩|⟨c15,H⟩;rotate_left
  .skip;apply fg;refine rkp [6] [] [.bool true] (f3 hh (zAb c15) (f2 c2 c12)) ?_ ?_
   .exact ⟨gd (i7 hx.san (by first|rfl|simp only [c2,c12])),trivial⟩
   clear hh h;intro h hh;cases H;exact rt hh
  apply fg;refine rkp [6] [] [.bool true] (f3 hh (zAa c15) (f2 c2 c12)) ?_ ?_
  .exact ⟨gd (i7 hx.san (by first|rfl|simp only [c2,c12])),trivial⟩
  clear hh h;intro h hh;cases H;exact rt hh
 refine ct (f2 hh c12) ?_;apply fg;refine rk [6] [] (f3 hh c2 c12) fun h hh=>?_;cases H;exact rt hh
theorem zt4:zko []:=⟨by decide,fun r hr=>by simp at hr⟩
theorem rt_of {n:Net} {t:List Rule} {most:Int} (hm:most<=100) (ht:zko t) (h:(t.length:Int)<=most/\(znl n 1000 t).2=0/\∃ F,Lit t F):∃ F,RtT n t F:=by
  obtain ⟨h1,h2,F,h3⟩:=h;exact ⟨F,RtT.of_check h2 h3 (by omega) ht⟩
theorem ydg (n:Net) (t:List Rule) (m:Merg) (hn:Held n) (ht:zko t):∃ k,zbz k n t m=some true:=by
  refine ⟨big,?_⟩;have hk:big<=big:=fp _;obtain ⟨b,e,hb⟩:=ylg hk n hn t ht 7 (by decide);unfold zbz;rw [e,ff]
  cases b with
  |false=>rw [zAd (by simp)]
  |true =>
    obtain ⟨F,R⟩:=rt_of (by decide) ht (hb rfl);have l1:=R.len;obtain ⟨r,e1,r1⟩:=zxe (m:=m) R.ok R.lit.right (by omega) hk;obtain ⟨r',e2,r2⟩:=z6l (m:=m) R.ok R.lit.right (by omega) hk;obtain rfl:=r1.uniq r2;obtain ⟨s,e3,s1⟩:=z4n (m:=m) R hk;obtain ⟨s',e4,s2⟩:=yca (m:=m) R hk;obtain rfl:=s1.uniq s2
    have ok1:zko r.1:=by
      rcases r1 with ⟨_,h⟩|⟨h,_⟩
      . exact (h.keep R).1.ok
      . rw [h];exact zt4
    have ok2:zko s.1:=by
      rcases s1 with ⟨_,h⟩|⟨h,_⟩|⟨h,_⟩
      . exact (h.1.keep R).1.ok
      . rw [h];exact zt4
      . rw [h];exact zt4
    rw [zAc rfl,e1,ff,e2,ff,e3,ff,e4,ff,zAd (fun h=>h rfl),zAd (fun h=>h rfl),z6n _ _ ok1 hk,ff,zAc (zAa rfl),z6n _ _ ok2 hk,ff,zAa rfl,ff,zAd (by simp)];by_cases h0:s.2=0
    . obtain ⟨Ru,hlen⟩:=(s1.ap h0).1.keep R;rw [zAc h0,z1a n 1000 _ Ru.ok hk,ff,zAc Ru.check];have hw:fi.wrap ((t.length:Int) - 1)=((s.1.length:Nat):Int):=by rw [wr64 (by omega)];omega
      rw [hw,zAa rfl]
    . rw [zAd h0]
theorem heldW {n:Net} (h:yk2 n):Held n:=⟨fun x hx=>(h.1.2 x hx).1,fun x hx=>(h.2.2.2 x hx).1⟩
theorem ylr {r:Rule} (h:z5p r):ziq r:=⟨h.2.2.2.1,fun l hl=>(h.2.2.2.2 l hl).1⟩
theorem ynx {t:List Rule} (h:t.length<big/\∀ y,y∈t->z5p y):zko t:=⟨h.1,fun r hr=>ylr (h.2 r hr)⟩
theorem law1w (n:Net) (t:List Rule) (m:Merg) (wn:yk2 n) (wt:t.length<big/\∀ y,y∈t->z5p y) (_:yhz m):∃ k,zbz k n t m=some true :=
  ydg n t m (heldW wn) (ynx wt)
end Go.Proofs.Ytkfnjbfnkpameaa
