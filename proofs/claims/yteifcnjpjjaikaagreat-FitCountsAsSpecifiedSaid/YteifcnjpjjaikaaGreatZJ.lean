/- Part 10 of the proof of FitCountsAsSpecified (several texts in one; no further condition). -/
import Derived.Test.YteifcnjpjjaikaaGreatZI
import Derived.Test.YteifcnjpjjaikaaGreatZH
import Derived.Test.YteifcnjpjjaikaaGreatZF
set_option linter.unusedSimpArgs false
set_option linter.unusedVariables false
set_option linter.unusedSectionVars false
namespace Go.Proofs.YteifcnjpjjaikaaGreat
set_option maxHeartbeats 8000000
open _root_.Bool renaming and_eq_true->dr,and_self->et,false_eq_true->jd,not_false->gc,not_true->f6
open Go.IntKind renaming i64->dw
open _root_.List renaming all_eq_true->ez,append_assoc->fe,append_nil->fj,cons_append->fd,drop_eq_getElem_cons->jr,drop_succ_cons->ir,drop_zero->fp,flatten_cons->fm,flatten_nil->io,getD_eq_getElem?_getD->ef,getElem?_eq_getElem->dv,getElem_mem->fo,length_append->er,length_cons->eh,length_map->ec,length_nil->gh,length_singleton->jh,length_take->fi,nil_append->ff,replicate->ew,take_length->mz
open _root_.Nat renaming beq_refl->gw,lt_of_lt_of_le->ei,reduceAdd->ek,reduceEqDiff->ej,reduceLT->iv,reduceLeDiff->ny,reduceMul->i6,reduceSub->gt,zero_add->fz
open _root_.Option renaming bind_some->dq
open Go.Proofs.YteifcnjpjjaikaaGreat.Pure renaming clr->fh
open Go.Proofs.YteifcnjpjjaikaaGreat.TS renaming add_ne->ld,add_same->l8,set_ne->gl,set_same->g0
open Go.Proofs.YteifcnjpjjaikaaGreat.TW renaming seq->dn
open Go.Proofs.YteifcnjpjjaikaaGreat.zaj renaming call->ey
set_option maxRecDepth 100000
open Go Go.RowKit
theorem zpj {k:Nat} (l:List Rule) (f:Rule->Option Bool) (q:Rule->Bool) (hf:∀ x,x∈l->f x=some (q x)) (hl:l.length<big) (hk:l.length<k):zck k l f=some (idxB q l):=by
  unfold zck;exact zlg l q hl (fun m j h=>by rw [za0,zAc (zaf h),zAc ⟨by omega,zaf h⟩,zcg h,hf _ (fo h),dq]) (fun m=>by rw [za0,zAd (by omega)]) hk
theorem zml {k:Nat} (l:List Rule) (f:Rule->Option Bool) (q:Rule->Bool) (hf:∀ x,x∈l->f x=some (q x)) (hl:l.length<big) (hk:l.length<k):zbc k l f=some (l.any q):=by
  unfold zbc;rw [zpj l f q hf hl hk,dq,zqg]
theorem zxg {r:Rule} (h:zbb r.mat=true):zfr (za2 r).port=true/\zfr (za2 r).tag=true:=by
  obtain ⟨_,pb,_⟩:=zfs.1 h;unfold za3 at pb;rw [ez] at pb
  have key:∀ j:Nat,j<10->zfr (gx r.mat.bits.l (j:Int))=true:=fun j hj=>by
    rw [gxA _ hj];exact pb _ (fo _)
  exact ⟨key 0 (by omega),key 9 (by omega)⟩
theorem yir {k:Nat} {r:Rule} {s:Spot} (hr:zbb r.mat=true) (hp:zfr s.port=true) (ht:zfr s.tag=true) (hk:big<=k):zfq k s r=some (zob r.mat (spP s)):=by
  unfold zfq zf2;rw [dq];show Option.bind (ze1 k r.mat (spP s)) _=_;rw [z4t hr (zub hp ht) (by simp only [big] at hk;omega),dq]
theorem yiq {k:Nat} {t:List Rule} {s:Spot} (hr:∀ r,r∈t->zbb r.mat=true) (hl:t.length<big) (hp:zfr s.port=true) (ht:zfr s.tag=true) (hk:big<=k):zbc k t (fun x=>zfd k x s)=some (zsg t s):=by
  refine zml t _ _ (fun r hm=>?_) hl (ei hl hk);unfold zfd;rw [z9e,dq]
  cases he:exB r with
  |true=>rfl
  |false =>
    rw [zAd (by simp),yir (hr r hm) hp ht hk,dq];rfl
theorem yba {t:List Rule} (hr:∀ r,r∈t->zbb r.mat=true) {s:Spot} (hs:s∈zes t []):zfr s.port=true/\zfr s.tag=true:=by
  rcases (znw t [] s).1 hs with h|⟨r,hm,_,rfl⟩
  . simp at h
  . exact zxg (hr r hm)
theorem z6f {k:Nat} {t:List Rule} (hr:∀ r,r∈t->zbb r.mat=true) (hl:t.length<1000000) (hk:big<=k):zie k t=some (zow t):=by
  have hlb:t.length<big:=by simp only [big];omega
  unfold zie zow;rw [zAc hl,z6p t 0 [] List.nodup_nil];have hK:=fun s (h:s∈zes t [])=>yba hr h;rw [List.map_nil];generalize zes t []=K at hK
  induction K with
  |nil=>rfl
  |cons s K ih =>
    obtain ⟨h1,h2⟩:=hK s (.head _);rw [List.map_cons,yeg,yiq hr hlb h1 h2 hk,dq,ih fun x hx=>hK x (.tail _ hx),dq,List.filterMap_cons];unfold zks
    cases zsg t s with
    |true=>rfl
    |false=>rfl
theorem z2h (k:Nat) (r:Rule):zja k r=some (exB r):=by
  unfold zja exB;rw [zAc (by omega)];by_cases h:gx r.mat.mask.l 0=65535
  . rw [zAc h,zAc (by omega),zAa h,Bool.true_and]
  . rw [zAd h,zAb h,Bool.false_and]
theorem ypm (k:Nat) (p t:Int):zt7 k p t=some (spP ⟨p,t⟩):=by
  unfold zt7;rw [zAc (by omega),zAc (by omega)];rfl
theorem yd0 {k:Nat} {t:List Rule} {s:Spot} (hr:∀ r,r∈t->zbb r.mat=true) (hl:t.length<1000000) (hp:zfr s.port=true) (ht:zfr s.tag=true) (hk:big<=k):zjc k t s.port s.tag=some (if zsg t s=true then [] else idxF (qs s) t 0):=by
  have key:∀ (m j:Nat),j<=t.length->t.length - j<m->zdf k t s.port s.tag m (j:Int) (idxF (qs s) (t.take j) 0) (idxF (qs s) (t.take j) 0).length=some (if ((t.drop j).any fun r=>!exB r && zob r.mat (spP s))=true then .inl [] else .inr (idxF (qs s) t 0,(idxF (qs s) t 0).length)):=by
    intro m
    induction m with
    |zero=>intro j h1 h2;omega
    |succ m ih =>
      intro j h1 h2;rw [zdf];rcases Nat.lt_or_ge j t.length with h|h
      . have hm:t[j]∈t:=fo h;have hx:=hr _ hm;rw [zAc (zaf h),zAc ⟨by omega,zaf h⟩,zcg h,ypm,dq];show Option.bind (zg5 k t[j].mat (spP s)) _=_;rw [z5t hx (zub hp ht) (by simp only [big] at hk;omega),dq,z2h,dq,jr h,List.any_cons,zgb j (by omega)];have ih2:=ih (j+1) (by omega) (by omega);rw [<- List.take_append_getElem h,z3g,fi,Nat.min_eq_left h1] at ih2;have hle:=z0p (qs s) (t.take j) 0;rw [fi] at hle
        cases ho:zob t[j].mat (spP s) with
        |false =>
          have hq:qs s t[j]=false:=by
            unfold qs
            cases he:exB t[j] with
            |false=>rfl
            |true=>rw [<- zxz hx hp ht he,ho];rfl
          rw [hq] at ih2;simp only [jd,if_false,fj] at ih2;rw [zAd (by simp),Bool.and_false,Bool.false_or];exact ih2
        |true =>
          rw [zAc rfl,Bool.and_true]
          cases he:exB t[j] with
          |false=>rfl
          |true =>
            have hq:qs s t[j]=true:=by
              unfold qs;rw [<- zxz hx hp ht he,ho,he];rfl
            rw [hq] at ih2;simp only [if_true,Int.zero_add,er,jh] at ih2;rw [zAc rfl,zAc (by omega)];exact ih2
      . obtain rfl:j=t.length:=by omega
        rw [zAd (by omega),List.drop_length,mz];rfl
  have:=key k 0 (Nat.zero_le _) (by simp only [big] at hk;omega);rw [List.take_zero,fp] at this;unfold zjc;have e:(zdf k t s.port s.tag k 0 [] 0:Option ((List Int) ⊕ (List Int×Nat)))=_:=this;rw [e,dq];show Sum.elim _ _ (if zsg t s=true then _ else _)=_
  cases zsg t s with
  |true=>rfl
  |false =>
    show (if (idxF (qs s) t 0).length=(idxF (qs s) t 0).length then some (idxF (qs s) t 0) else none)=_;rw [zAc rfl];rfl
theorem zvg (q:Rule->Bool):∀ (a b:List Rule) (i:Int),idxF q (a++b) i=idxF q a i++idxF q b (i+(a.length:Int))
  |[],b,i=>by simp [idxF]
  |x :: a,b,i=>by
    rw [fd,idxF,idxF,zvg q a b];have e:i+1+(a.length:Int)=i+((x :: a).length:Int):=by rw [eh];omega
    rw [e];split<;>rfl
theorem z0o {q:Rule->Bool}:∀ {l:List Rule} {i:Int},idxF q l i=[]↔∀ r,r∈l->q r=false
  |[],i=>by simp [idxF]
  |x :: l,i=>by
    rw [idxF]
    cases hq:q x with
    |true =>
      rw [zAc rfl];constructor
      . intro h;cases h
      . intro h;have:=h x (.head _);rw [hq] at this;cases this
    |false =>
      rw [zAd (by simp),z0o];constructor
      . intro h r hr;rcases List.mem_cons.1 hr with rfl|hr
        . exact hq
        . exact h r hr
      . intro h r hr;exact h r (.tail _ hr)
theorem zya:∀ (l:List Rule) (K:List Spot),(zes l K).length<=K.length+l.length:=by
  intro l
  induction l with
  |nil=>intro K;exact Nat.le_refl _
  |cons x l ih =>
    intro K;rw [zes,eh];by_cases c:exB x=true/\za2 x ∉ K
    . have:=ih (K++[za2 x]);rw [zAc c];rw [er,jh] at this;omega
    . have:=ih K;rw [zAd c];omega
theorem z5s {k:Nat} {t:List Rule} (hr:∀ r,r∈t->zbb r.mat=true) (hl:t.length<1000000) (hk:big<=k):zic k t=some (zow t):=by
  have hkl:∀ (l:List Rule),(zes l []).length<=l.length:=by
    intro l;have:=zya l [];simpa using this
  have key:∀ (m j:Nat),j<=t.length->t.length - j<m->zbl k t m (j:Int) ((zes (t.take j) []).filterMap (zks t)) ((zes (t.take j) []).filterMap (zks t)).length=some (zow t,(zow t).length):=by
    intro m
    induction m with
    |zero=>intro j h1 h2;omega
    |succ m ih =>
      intro j h1 h2;rw [zbl];rcases Nat.lt_or_ge j t.length with h|h
      . have hm:t[j]∈t:=fo h;obtain ⟨w1,w2⟩:=zxg (hr _ hm);rw [zAc (zaf h),zAc ⟨by omega,zaf h⟩,zcg h,z2h,dq,zgb j (by omega)];have ih2:=ih (j+1) (by omega) (by omega);rw [<- List.take_append_getElem h,zva] at ih2
        have hle:((zes (t.take j) []).filterMap (zks t)).length<=j:=by
          refine Nat.le_trans (List.length_filterMap_le _ _) ?_;have:=hkl (t.take j);rw [fi] at this;omega
        cases he:exB t[j] with
        |false =>
          rw [he,zAd (fun q=>by cases q.1)] at ih2;rw [zAd (by simp)];exact ih2
        |true =>
          rw [he] at ih2;rw [zAc rfl,zAc (by omega),zAc (by omega)];have hb:=yd0 (s:=za2 t[j]) hr hl w1 w2 hk;have hb2:zjc k t (gx t[j].mat.bits.l 0) (gx t[j].mat.bits.l 9)=some (if zsg t (za2 t[j])=true then [] else idxF (qs (za2 t[j])) t 0):=hb;rw [hb2,dq]
          cases hx:zsg t (za2 t[j]) with
          |true =>
            rw [zAc rfl,zAd (by simp)];have hn:zks t (za2 t[j])=none:=by unfold zks;rw [hx];rfl
            by_cases hmem:za2 t[j] ∉ zes (t.take j) []
            . rw [zAc ⟨rfl,hmem⟩,List.filterMap_append,List.filterMap_cons,hn] at ih2;simpa using ih2
            . rw [zAd (fun q=>hmem q.2)] at ih2;exact ih2
          |false =>
            simp only [jd,if_false];have hs:zks t (za2 t[j])=some ⟨(za2 t[j]).port,(za2 t[j]).tag,idxF (qs (za2 t[j])) t 0⟩:=by unfold zks;rw [hx];rfl
            have hsplit:idxF (qs (za2 t[j])) t 0=idxF (qs (za2 t[j])) (t.take j) 0++((j:Int) :: idxF (qs (za2 t[j])) (t.drop (j+1)) ((j:Int)+1)):=by
              have hsp:∀ q:Rule->Bool,idxF q t 0=idxF q (t.take j++t.drop j) 0:=fun q=>by rw [List.take_append_drop]
              rw [hsp,zvg,fi,Nat.min_eq_left h1,jr h,idxF];rw [zAc (show qs (za2 t[j]) t[j]=true by unfold qs;rw [he,zAa rfl];rfl),Int.zero_add]
            by_cases hmem:za2 t[j] ∉ zes (t.take j) []
            . have hnil:idxF (qs (za2 t[j])) (t.take j) 0=[]:=by
                rw [z0o];intro r hrm
                cases hq:qs (za2 t[j]) r with
                |false=>rfl
                |true =>
                  unfold qs at hq;simp only [dr,decide_eq_true_eq] at hq;exact absurd ((znw _ [] _).2 (.inr ⟨r,hrm,hq.1,hq.2⟩)) hmem
              rw [zAc ⟨rfl,hmem⟩,List.filterMap_append,List.filterMap_cons,hs] at ih2;simp only [List.filterMap_nil,er,jh] at ih2;have hg:gx (idxF (qs (za2 t[j])) t 0) 0=(j:Int):=by rw [hsplit,hnil];rfl
              have hpos:0<(idxF (qs (za2 t[j])) t 0).length:=by rw [hsplit,hnil];simp
              rw [zAc (by omega),zAc (by omega),zAc hg,zAc (by omega)];exact ih2
            . have hmem2:za2 t[j]∈zes (t.take j) []:=Classical.not_not.1 hmem;rw [zAd (fun q=>hmem q.2)] at ih2
              have hlt:∃ x r,idxF (qs (za2 t[j])) (t.take j) 0=x :: r/\x<(j:Int):=by
                rcases (znw _ [] _).1 hmem2 with q|⟨r,hrm,q1,q2⟩
                . simp at q
                . cases hi:idxF (qs (za2 t[j])) (t.take j) 0 with
                  |nil =>
                    have:=z0o.1 hi r hrm;unfold qs at this;rw [q1,zAa q2] at this
                    cases this
                  |cons x rr =>
                    refine ⟨x,rr,rfl,?_⟩
                    have up:∀ (l:List Rule) (i y:Int),y∈idxF (qs (za2 t[j])) l i->y<i+(l.length:Int):=by
                      intro l
                      induction l with
                      |nil=>intro i y hy;simp [idxF] at hy
                      |cons z l ihl =>
                        intro i y hy;rw [idxF] at hy;rw [eh];split at hy
                        . rcases List.mem_cons.1 hy with rfl|hy
                          . omega
                          . have:=ihl _ _ hy;omega
                        . have:=ihl _ _ hy;omega
                    have:=up (t.take j) 0 x (by rw [hi];exact .head _);rw [fi] at this;omega
              obtain ⟨x,rr,hi,hxj⟩:=hlt;have hg:gx (idxF (qs (za2 t[j])) t 0) 0=x:=by rw [hsplit,hi];rfl
              have hpos:0<(idxF (qs (za2 t[j])) t 0).length:=by rw [hsplit,hi];simp
              rw [zAc (by omega),zAc (by omega),zAd (by rw [hg];omega)];exact ih2
      . obtain rfl:j=t.length:=by omega
        rw [zAd (by omega),mz];rfl
  have:=key k 0 (Nat.zero_le _) (by simp only [big] at hk;omega);rw [List.take_zero] at this;unfold zic;have e:(zbl k t k 0 [] 0:Option (List zgk×Nat))=_:=this;rw [e,dq];show (if (zow t).length=(zow t).length then some (zow t) else none)=_;rw [zAc rfl]
theorem zqu {α β:Type} {c:α->Option β}:∀ {l:List α},l.findSome? c=none->∀ x,x∈l->c x=none
  |[],_,x,hx=>by cases hx
  |y :: l,h,x,hx=>by
    rw [List.findSome?_cons] at h
    cases hc:c y with
    |some b=>rw [hc] at h;cases h
    |none =>
      rw [hc] at h
      cases hx with
      |head=>exact hc
      |tail _ hx=>exact zqu h x hx
theorem z4c {n:Net} {steps:Int} {t:List Rule} (h:(zkc n steps t).2=0):t.length<=4000/\∀ j,j<t.length->zna n steps t j=true:=by
  unfold zkc at h;by_cases c1:steps<0\/1000<steps
  . rw [zAc c1] at h;cases h
  . rw [zAd c1] at h;by_cases c2:4000<t.length
    . rw [zAc c2] at h;cases h
    . rw [zAd c2] at h;refine ⟨by omega,fun j hj=>?_⟩
      cases hf:(List.range t.length).findSome? (fun j=>if zna n steps t j=true then none else some ((j:Int),(1:Int))) with
      |some r =>
        rw [hf] at h;obtain ⟨x,_,hx⟩:=List.exists_of_findSome?_eq_some hf;simp only at h;split at hx
        . cases hx
        . cases hx;cases h
      |none =>
        have:=zqu hf j (List.mem_range.2 hj)
        cases hg:zna n steps t j with
        |true=>rfl
        |false=>rw [hg] at this;simp at this
theorem yf1 {n:Net} {steps:Int} {t:List Rule} (h:(zkc n steps t).2=0):∀ r,r∈t->zka n steps r=true:=by
  intro r hr;obtain ⟨j,hj,rfl⟩:=List.getElem_of_mem hr;have:=(z4c h).2 j hj;unfold zna at this;rw [ef,dv hj] at this;simp only [dr] at this;exact this.1
theorem yia {n:Net} {steps:Int} {r:Rule} (h:zka n steps r=true):zbb r.mat=true:=by
  unfold zka at h;simp only [dr] at h;exact h.2.1
def zai (k:Nat) (n:Net) (c:zaw) (af:List Int) (ai:List Int):Nat->Int->Option (Bool ⊕ Unit)
 |0,_=>none
 |m+1,i=>(if i<(c.tables.length:Int) then (if 0<=i/\i<(c.tables.length:Int) then (if 0<=i/\i<(n.nodes.length:Int) then (if 0<=i/\i<(af.length:Int) then (if 0<=i/\i<(ai.length:Int) then (if ((gx c.tables i).length:Int)≠(dw.wrap ((dw.wrap (((gx n.nodes i).rules)+(gx af i))) - (gx ai i))) then some (.inl false) else ((zie k (gx c.tables i)).bind fun cd=>((zic k (gx c.tables i)).bind fun cg=>((ze5 k cd cg).bind fun de=>(if de=true then zai k n c af ai m (dw.wrap (i+1)) else some (.inl false)))))) else none) else none) else none) else none) else some (.inr ()))
def zb5 (k:Nat) (n:Net) (c:zaw) (d:zaw):Option Bool:=((znq k c 60).bind fun bn=>((znq k d 60).bind fun df=>(((if 10<(n.nodes.length:Int) then some true else (if 30<(n.links.length:Int) then some true else (if 20<(n.edges.length:Int) then some true else (if bn=true then some (!df) else some true)))):Option Bool).bind fun s_=>(if s_=true then some true else ((zk3 k n).bind fun ag=>(if ag≠0 then some true else ((zk9 k n c).bind fun ab=>((((zkz k n c).bind fun ac=>(if ab=true then (if ac=true then ((zgn k c d).bind fun aj=>((zky k c d).bind fun aw=>(if aj=true then (if aw=true then ((zgn k c c).bind fun dh=>some (true,(!dh))) else some (true,true)) else (if aw=true then some (true,true) else ((zgn k c c).bind fun di=>some (true,(!di))))))) else some (true,true)) else (if ac=true then some (false,true) else ((zgn k c d).bind fun bd=>((zky k c d).bind fun ay=>(if bd=true then (if ay=true then ((zgn k c c).bind fun dj=>some (false,(!dj))) else some (false,true)) else (if ay=true then some (false,true) else ((zgn k c c).bind fun dl=>some (false,(!dl)))))))))):Option (Bool×Bool)).bind fun s_2=>(if s_2.2=true then some false else (if s_2.1=true then ((zhy k n c).bind fun af=>((zjg k n c).bind fun ai=>((((zhv k n c).bind fun be=>((zde k af be).bind fun ap=>(if ap=true then ((zjb k n c).bind fun br=>((zde k ai br).bind fun bw=>some (!bw))) else some true))):Option Bool).bind fun s_3=>(if s_3=true then some false else ((zai k n c af ai k 0:Option (Bool ⊕ Unit)).bind fun o=>Sum.elim (fun r=>some r) (fun s_4=>some true) o))))) else some true))))))))))
theorem zj3 (ax:Axs) (hx:yot ax) (k:Nat) (n:Net) (c:zaw) (d:zaw) (v:Bool) (H:zb5 k n c d=some v):Pure Tryz.prog (EE ax) [] 3 [eNet n,zd5 c,zd5 d] (.bool v):=by
 rw [zb5] at H;refine en [.tmp 6] 141 [0,1,2] (hx.no _ (by decide)) (fn3 ax) ?_;intro h hh;repeat apply dn
 refine rk [3,4,5] [] hh fun h hh=>?_;obtain ⟨bn,e1,H⟩:=zad H;repeat apply dn
 refine rkp [3,4,5,7] [] [.bool bn] hh ?_ ?_
 .exact ⟨ey ((zt5 ax hx k c 60 bn e1 ).call _),trivial⟩
 clear hh h;intro h hh;obtain ⟨df,e2,H⟩:=zad H;repeat apply dn
 refine rkp [3,4,5,7,8] [] [.bool df] hh ?_ ?_
 .exact ⟨ey ((zt5 ax hx k d 60 df e2 ).call _),trivial⟩
 clear hh h;intro h hh;obtain ⟨s_,H1,H⟩:=zad H;repeat apply dn
 refine cu [3,4,5,41] 3 (fun h bs=>(h 3=.ptr 0 0 3/\h 4=.ptr 1 0 3/\h 5=.ptr 2 0 3/\h 41=.bool s_)/\bs=[.cells true 3 [zbn n.nodes,zbo n.links,zbp n.edges],.cells true 3 [.int .i64 c.version,zam c.tables,zau c.steps],.cells true 3 [.int .i64 d.version,zam d.tables,zau d.steps]]) ?_ ?_
 .skip;rcases isp H1 with ⟨c3,H1⟩|⟨c3,H1⟩;rotate_left
  .skip;rcases isp H1 with ⟨c4,H1⟩|⟨c4,H1⟩;rotate_left
   .skip;rcases isp H1 with ⟨c5,H1⟩|⟨c5,H1⟩;rotate_left
    .skip;rcases isb H1 with ⟨c6,H1⟩|⟨c6,H1⟩;rotate_left
     .skip;repeat apply dn
      refine rk [3,4,5,41] [] (f3 hh (zAb c3) (f3 (zAb c4) (zAb c5) c6)) fun h hh=>?_;cases H1;exact ce hh ⟨kq hh,rfl⟩
     repeat apply dn
     refine rk [3,4,5,41] [] (f3 hh (zAb c3) (f3 (zAb c4) (zAb c5) c6)) fun h hh=>?_;cases H1;exact ce hh ⟨kq hh,rfl⟩
    repeat apply dn
    refine rk [3,4,5,41] [] (f3 hh (zAb c3) (f2 (zAb c4) (zAa c5))) fun h hh=>?_;cases H1;exact ce hh ⟨kq hh,rfl⟩
   repeat apply dn
   refine rk [3,4,5,41] [] (f3 hh (zAb c3) (zAa c4)) fun h hh=>?_;cases H1;exact ce hh ⟨kq hh,rfl⟩
  repeat apply dn
  refine rk [3,4,5,41] [] (f2 hh (zAa c3)) fun h hh=>?_;cases H1;exact ce hh ⟨kq hh,rfl⟩
 clear hh h;rintro h bs ⟨hh,rfl⟩;rcases isb H with ⟨c7,H⟩|⟨c7,H⟩;rotate_left
 .skip;repeat apply dn
  refine cf (f2 hh c7) ?_;repeat apply dn
  refine sk ?_;obtain ⟨ag,e8,H⟩:=zad H;repeat apply dn
  refine rkp [3,4,5,9] [] [.int .i64 ag] (f2 hh c7) ?_ ?_
  .exact ⟨ey (fh (zz2 ax hx k n ag e8 ) (by first|rfl|simp only [c7])),trivial⟩
  clear hh h;intro h hh;repeat apply dn
  refine rk [3,4,5,46] [] (f2 hh c7) fun h hh=>?_;rcases isp H with ⟨c9,H⟩|⟨c9,H⟩;rotate_left
  .skip;repeat apply dn
   refine cf (f2 hh (zAb c9)) ?_;repeat apply dn
   refine sk ?_;obtain ⟨ab,e10,H⟩:=zad H;repeat apply dn
   refine rkp [3,4,5,10] [] [.bool ab] (f2 hh c7) ?_ ?_
   .exact ⟨ey (fh (zz5 ax hx k n c ab e10 ) (by first|rfl|simp only [c7])),trivial⟩
   clear hh h;intro h hh;obtain ⟨s_2,H1,H⟩:=zad H;repeat apply dn
   refine cu [3,4,10,70] 3 (fun h bs=>(h 3=.ptr 0 0 3/\h 4=.ptr 1 0 3/\h 10=.bool s_2.1/\h 70=.bool s_2.2)/\bs=[.cells true 3 [zbn n.nodes,zbo n.links,zbp n.edges],.cells true 3 [.int .i64 c.version,zam c.tables,zau c.steps],.cells true 3 [.int .i64 d.version,zam d.tables,zau d.steps]]) ?_ ?_
   .skip;obtain ⟨ac,e11,H1⟩:=zad H1;rcases isb H1 with ⟨c12,H1⟩|⟨c12,H1⟩;rotate_left
    .skip;rcases isb H1 with ⟨c21,H1⟩|⟨c21,H1⟩;rotate_left
     .skip;obtain ⟨bd,e22,H1⟩:=zad H1;obtain ⟨ay,e23,H1⟩:=zad H1;rcases isb H1 with ⟨c24,H1⟩|⟨c24,H1⟩;rotate_left
      .skip;rcases isb H1 with ⟨c27,H1⟩|⟨c27,H1⟩;rotate_left
       .skip;obtain ⟨dl,e28,H1⟩:=zad H1;repeat apply dn
        refine dk 17 [3,4,10,70] [.bool ac,.bool bd,.bool ay] [] [(.bool dl,stL [.cells true 3 [zbn n.nodes,zbo n.links,zbp n.edges],.cells true 3 [.int .i64 c.version,zam c.tables,zau c.steps],.cells true 3 [.int .i64 d.version,zam d.tables,zau d.steps]])] (f3 hh c12 (f3 c21 c24 (f2 c27 c7))) ?_ ?_ ?_
        .exact ⟨fh (zct ax hx k n c ac e11 ) (by first|rfl|simp only [c7,c12,c21,c24,c27]),fh (zcc ax hx k c d bd e22 ) (by first|rfl|simp only [c7,c12,c21,c24,c27]),fh (zep ax hx k c d ay e23 ) (by first|rfl|simp only [c7,c12,c21,c24,c27]),trivial⟩
        .exact ⟨ey (fh (zcc ax hx k c c dl e28 ) (by first|rfl|simp only [c7,c12,c21,c24,c27])),trivial⟩
        clear hh h;intro h hh;cases H1;exact ce hh ⟨kq (f2 hh c12),rfl⟩
       repeat apply dn
       refine dk 17 [3,4,10,70] [.bool ac,.bool bd,.bool ay] [] [] (f3 hh c12 (f3 c21 c24 (f2 c27 c7))) ?_ trivial ?_
       .exact ⟨fh (zct ax hx k n c ac e11 ) (by first|rfl|simp only [c7,c12,c21,c24,c27]),fh (zcc ax hx k c d bd e22 ) (by first|rfl|simp only [c7,c12,c21,c24,c27]),fh (zep ax hx k c d ay e23 ) (by first|rfl|simp only [c7,c12,c21,c24,c27]),trivial⟩
       clear hh h;intro h hh;cases H1;exact ce hh ⟨kq (f2 hh c12),rfl⟩
      rcases isb H1 with ⟨c25,H1⟩|⟨c25,H1⟩;rotate_left
      .skip;repeat apply dn
       refine dk 17 [3,4,10,70] [.bool ac,.bool bd,.bool ay] [] [] (f3 hh c12 (f3 c21 c24 (f2 c25 c7))) ?_ trivial ?_
       .exact ⟨fh (zct ax hx k n c ac e11 ) (by first|rfl|simp only [c7,c12,c21,c24,c25]),fh (zcc ax hx k c d bd e22 ) (by first|rfl|simp only [c7,c12,c21,c24,c25]),fh (zep ax hx k c d ay e23 ) (by first|rfl|simp only [c7,c12,c21,c24,c25]),trivial⟩
       clear hh h;intro h hh;cases H1;exact ce hh ⟨kq (f2 hh c12),rfl⟩
      obtain ⟨dj,e26,H1⟩:=zad H1;repeat apply dn
      refine dk 17 [3,4,10,70] [.bool ac,.bool bd,.bool ay] [] [(.bool dj,stL [.cells true 3 [zbn n.nodes,zbo n.links,zbp n.edges],.cells true 3 [.int .i64 c.version,zam c.tables,zau c.steps],.cells true 3 [.int .i64 d.version,zam d.tables,zau d.steps]])] (f3 hh c12 (f3 c21 c24 (f2 c25 c7))) ?_ ?_ ?_
      .exact ⟨fh (zct ax hx k n c ac e11 ) (by first|rfl|simp only [c7,c12,c21,c24,c25]),fh (zcc ax hx k c d bd e22 ) (by first|rfl|simp only [c7,c12,c21,c24,c25]),fh (zep ax hx k c d ay e23 ) (by first|rfl|simp only [c7,c12,c21,c24,c25]),trivial⟩
      .exact ⟨ey (fh (zcc ax hx k c c dj e26 ) (by first|rfl|simp only [c7,c12,c21,c24,c25])),trivial⟩
      clear hh h;intro h hh;cases H1;exact ce hh ⟨kq (f2 hh c12),rfl⟩
     repeat apply dn
     refine dk 17 [3,4,10,70] [.bool ac] [] [] (f3 hh c12 (f2 c21 c7)) ?_ trivial ?_
     .exact ⟨fh (zct ax hx k n c ac e11 ) (by first|rfl|simp only [c7,c12,c21]),trivial⟩
     clear hh h;intro h hh;cases H1;exact ce hh ⟨kq (f2 hh c12),rfl⟩
    rcases isb H1 with ⟨c13,H1⟩|⟨c13,H1⟩;rotate_left
    .skip;repeat apply dn
     refine dk 17 [3,4,10,70] [.bool ac] [] [] (f3 hh c12 (f2 c13 c7)) ?_ trivial ?_
     .exact ⟨fh (zct ax hx k n c ac e11 ) (by first|rfl|simp only [c7,c12,c13]),trivial⟩
     clear hh h;intro h hh;cases H1;exact ce hh ⟨kq (f2 hh c12),rfl⟩
    obtain ⟨aj,e14,H1⟩:=zad H1;obtain ⟨aw,e15,H1⟩:=zad H1;rcases isb H1 with ⟨c16,H1⟩|⟨c16,H1⟩;rotate_left
    .skip;rcases isb H1 with ⟨c19,H1⟩|⟨c19,H1⟩;rotate_left
     .skip;obtain ⟨di,e20,H1⟩:=zad H1;repeat apply dn
      refine dk 17 [3,4,10,70] [.bool ac,.bool aj,.bool aw] [] [(.bool di,stL [.cells true 3 [zbn n.nodes,zbo n.links,zbp n.edges],.cells true 3 [.int .i64 c.version,zam c.tables,zau c.steps],.cells true 3 [.int .i64 d.version,zam d.tables,zau d.steps]])] (f3 hh c12 (f3 c13 c16 (f2 c19 c7))) ?_ ?_ ?_
      .exact ⟨fh (zct ax hx k n c ac e11 ) (by first|rfl|simp only [c7,c12,c13,c16,c19]),fh (zcc ax hx k c d aj e14 ) (by first|rfl|simp only [c7,c12,c13,c16,c19]),fh (zep ax hx k c d aw e15 ) (by first|rfl|simp only [c7,c12,c13,c16,c19]),trivial⟩
      .exact ⟨ey (fh (zcc ax hx k c c di e20 ) (by first|rfl|simp only [c7,c12,c13,c16,c19])),trivial⟩
      clear hh h;intro h hh;cases H1;exact ce hh ⟨kq (f2 hh c12),rfl⟩
     repeat apply dn
     refine dk 17 [3,4,10,70] [.bool ac,.bool aj,.bool aw] [] [] (f3 hh c12 (f3 c13 c16 (f2 c19 c7))) ?_ trivial ?_
     .exact ⟨fh (zct ax hx k n c ac e11 ) (by first|rfl|simp only [c7,c12,c13,c16,c19]),fh (zcc ax hx k c d aj e14 ) (by first|rfl|simp only [c7,c12,c13,c16,c19]),fh (zep ax hx k c d aw e15 ) (by first|rfl|simp only [c7,c12,c13,c16,c19]),trivial⟩
     clear hh h;intro h hh;cases H1;exact ce hh ⟨kq (f2 hh c12),rfl⟩
    rcases isb H1 with ⟨c17,H1⟩|⟨c17,H1⟩;rotate_left
    .skip;repeat apply dn
     refine dk 17 [3,4,10,70] [.bool ac,.bool aj,.bool aw] [] [] (f3 hh c12 (f3 c13 c16 (f2 c17 c7))) ?_ trivial ?_
     .exact ⟨fh (zct ax hx k n c ac e11 ) (by first|rfl|simp only [c7,c12,c13,c16,c17]),fh (zcc ax hx k c d aj e14 ) (by first|rfl|simp only [c7,c12,c13,c16,c17]),fh (zep ax hx k c d aw e15 ) (by first|rfl|simp only [c7,c12,c13,c16,c17]),trivial⟩
     clear hh h;intro h hh;cases H1;exact ce hh ⟨kq (f2 hh c12),rfl⟩
    obtain ⟨dh,e18,H1⟩:=zad H1;repeat apply dn
    refine dk 17 [3,4,10,70] [.bool ac,.bool aj,.bool aw] [] [(.bool dh,stL [.cells true 3 [zbn n.nodes,zbo n.links,zbp n.edges],.cells true 3 [.int .i64 c.version,zam c.tables,zau c.steps],.cells true 3 [.int .i64 d.version,zam d.tables,zau d.steps]])] (f3 hh c12 (f3 c13 c16 (f2 c17 c7))) ?_ ?_ ?_
    .exact ⟨fh (zct ax hx k n c ac e11 ) (by first|rfl|simp only [c7,c12,c13,c16,c17]),fh (zcc ax hx k c d aj e14 ) (by first|rfl|simp only [c7,c12,c13,c16,c17]),fh (zep ax hx k c d aw e15 ) (by first|rfl|simp only [c7,c12,c13,c16,c17]),trivial⟩
    .exact ⟨ey (fh (zcc ax hx k c c dh e18 ) (by first|rfl|simp only [c7,c12,c13,c16,c17])),trivial⟩
    clear hh h;intro h hh;cases H1;exact ce hh ⟨kq (f2 hh c12),rfl⟩
   clear hh h;rintro h bs ⟨hh,rfl⟩;rcases isb H with ⟨c29,H⟩|⟨c29,H⟩;rotate_left
   .skip;repeat apply dn
    refine cf (f2 hh c29) ?_;repeat apply dn
    refine sk ?_;repeat apply dn
    refine rk [3,4,72] [] (f3 hh c7 c29) fun h hh=>?_;rcases isb H with ⟨c30,H⟩|⟨c30,H⟩;rotate_left
    .skip;repeat apply dn
     refine ct (f2 hh c30) ?_;repeat apply dn
     refine rkp [6] [] [.bool true] (f3 hh c7 (f2 c29 c30)) ?_ ?_
     .exact ⟨ey (fh hx.san (by first|rfl|simp only [c7,c29,c30])),trivial⟩
     clear hh h;intro h hh;cases H;exact rt hh
    repeat apply dn
    refine cf (f2 hh c30) ?_;repeat apply dn
    refine sk ?_;obtain ⟨af,e31,H⟩:=zad H;repeat apply dn
    refine rkp [3,4,11] [] [ints af] (f3 hh c7 (f2 c29 c30)) ?_ ?_
    .exact ⟨ey (fh (zwp ax hx k n c af e31 ) (by first|rfl|simp only [c7,c29,c30])),trivial⟩
    clear hh h;intro h hh;obtain ⟨ai,e32,H⟩:=zad H;repeat apply dn
    refine rkp [3,4,11,12] [] [ints ai] (f3 hh c7 (f2 c29 c30)) ?_ ?_
    .exact ⟨ey (fh (zz4 ax hx k n c ai e32 ) (by first|rfl|simp only [c7,c29,c30])),trivial⟩
    clear hh h;intro h hh;obtain ⟨s_3,H1,H⟩:=zad H;repeat apply dn
    refine cu [3,4,11,12,93] 3 (fun h bs=>(h 3=.ptr 0 0 3/\h 4=.ptr 1 0 3/\h 11=ints af/\h 12=ints ai/\h 93=.bool s_3)/\bs=[.cells true 3 [zbn n.nodes,zbo n.links,zbp n.edges],.cells true 3 [.int .i64 c.version,zam c.tables,zau c.steps],.cells true 3 [.int .i64 d.version,zam d.tables,zau d.steps]]) ?_ ?_
    .skip;obtain ⟨be,e33,H1⟩:=zad H1;obtain ⟨ap,e34,H1⟩:=zad H1;rcases isb H1 with ⟨c35,H1⟩|⟨c35,H1⟩;rotate_left
     .skip;repeat apply dn
      refine rkp [3,4,11,12,93] [] [ints be,.bool ap] (f3 hh c35 (f3 c7 c29 c30)) ?_ ?_
      .exact ⟨ey (fh (zom ax hx k n c be e33 ) (by first|rfl|simp only [c7,c29,c30,c35])),ey (fh (zgw ax hx k af be ap e34 ) (by first|rfl|simp only [c7,c29,c30,c35])),trivial⟩
      clear hh h;intro h hh;cases H1;exact ce hh ⟨kq hh,rfl⟩
     obtain ⟨br,e36,H1⟩:=zad H1;obtain ⟨bw,e37,H1⟩:=zad H1;repeat apply dn
     refine rkp [3,4,11,12,93] [] [ints be,.bool ap,ints br,.bool bw] (f3 hh c35 (f3 c7 c29 c30)) ?_ ?_
     .exact ⟨ey (fh (zom ax hx k n c be e33 ) (by first|rfl|simp only [c7,c29,c30,c35])),ey (fh (zgw ax hx k af be ap e34 ) (by first|rfl|simp only [c7,c29,c30,c35])),ey (fh (zzx ax hx k n c br e36 ) (by first|rfl|simp only [c7,c29,c30,c35])),ey (fh (zgw ax hx k ai br bw e37 ) (by first|rfl|simp only [c7,c29,c30,c35])),trivial⟩
     clear hh h;intro h hh;cases H1;exact ce hh ⟨kq hh,rfl⟩
    clear hh h;rintro h bs ⟨hh,rfl⟩;rcases isb H with ⟨c38,H⟩|⟨c38,H⟩;rotate_left
    .skip;repeat apply dn
     refine cf (f2 hh c38) ?_;repeat apply dn
     refine sk ?_;repeat apply dn
     refine rk [3,4,11,12,13] [] (f3 hh c7 (f3 c29 c30 c38)) fun h hh=>?_;obtain ⟨o,H1,H⟩:=zad H;repeat apply dn
     refine cu [] 3 (fun h bs=>∃ s_4:Unit,o=.inr s_4/\(True)/\bs=[.cells true 3 [zbn n.nodes,zbo n.links,zbp n.edges],.cells true 3 [.int .i64 c.version,zam c.tables,zau c.steps],.cells true 3 [.int .i64 d.version,zam d.tables,zau d.steps]]) ?_ ?_
     .skip;repeat apply dn
      apply TW.block;repeat apply dn
      refine TW.loopT [3,4,11,12,13] (fun m h bs=>∃ (i:Int),zai k n c af ai m i=some o/\(h 3=.ptr 0 0 3/\h 4=.ptr 1 0 3/\h 11=ints af/\h 12=ints ai/\h 13=.int .i64 i)/\bs=[.cells true 3 [zbn n.nodes,zbo n.links,zbp n.edges],.cells true 3 [.int .i64 c.version,zam c.tables,zau c.steps],.cells true 3 [.int .i64 d.version,zam d.tables,zau d.steps]]) ?_ k _ _ ?_;rotate_left
      .exact ⟨0,H1,kq hh,rfl⟩
      clear hh h H1;rintro m h bs ⟨i,H1,hh,rfl⟩;rcases m with _|m
      .rw [zai] at H1;cases H1
      rw [zai] at H1;repeat apply dn
      refine rk [3,4,11,12,13,98] [] (f3 hh c7 (f3 c29 c30 c38)) fun h hh=>?_;rcases isp H1 with ⟨c39,H1⟩|⟨c39,H1⟩;rotate_left
      .skip;repeat apply dn
       refine cf (f2 hh (zAb c39)) ?_;refine xk ?_;cases H1;exact ce hh ⟨_,rfl,kq hh,rfl⟩
      repeat apply dn
      refine ct (f2 hh (zAa c39)) ?_;repeat apply dn
      refine sk ?_;repeat apply dn
      apply TW.block;obtain ⟨g40,H1⟩:=isg H1;obtain ⟨g41,H1⟩:=isg H1;obtain ⟨g42,H1⟩:=isg H1;obtain ⟨g43,H1⟩:=isg H1;rcases isp H1 with ⟨c44,H1⟩|⟨c44,H1⟩;rotate_left
      .skip;obtain ⟨cd,e45,H1⟩:=zad H1;obtain ⟨cg,e46,H1⟩:=zad H1;obtain ⟨de,e47,H1⟩:=zad H1;repeat apply dn
       refine dk 35 [3,4,11,12,13,139] [zmg cd] [] [(zmg cg,stL [.cells true 3 [zbn n.nodes,zbo n.links,zbp n.edges],.cells true 3 [.int .i64 c.version,zam c.tables,zau c.steps],.cells true 3 [.int .i64 d.version,zam d.tables,zau d.steps]]),(.bool de,stL [.cells true 3 [zbn n.nodes,zbo n.links,zbp n.edges],.cells true 3 [.int .i64 c.version,zam c.tables,zau c.steps],.cells true 3 [.int .i64 d.version,zam d.tables,zau d.steps]])] (f3 hh (zAb c44) (f3 c7 c29 (f3 c30 c38 (f3 (zae g40) (zae g41) (f2 (zae g42) (zae g43)))))) ?_ ?_ ?_
       .exact ⟨fh (zud ax hx k (gx c.tables i) cd e45 ) (by first|rfl|simp only [c7,c29,c30,c38]),trivial⟩
       .exact ⟨ey (fh (zt6 ax hx k (gx c.tables i) cg e46 ) (by first|rfl|simp only [c7,c29,c30,c38])),ey (fh (zo3 ax hx k cd cg de e47 ) (by first|rfl|simp only [c7,c29,c30,c38])),trivial⟩
       clear hh h;intro h hh;rcases isb H1 with ⟨c48,H1⟩|⟨c48,H1⟩;rotate_left
       .skip;repeat apply dn
        refine ct (f2 hh c48) ?_;repeat apply dn
        refine rk [6] [] (f3 hh c7 (f3 c29 c30 (f2 c38 c48))) fun h hh=>?_;cases H1;obtain rfl:=sinl H;exact rt hh
       repeat apply dn
       refine cf (f2 hh c48) ?_;repeat apply dn
       refine sk ?_;repeat apply dn
       refine rk [3,4,11,12,13] [] (f3 hh c7 (f3 c29 c30 (f2 c38 c48))) fun h hh=>?_;exact rd m hh ⟨(dw.wrap (i+1)),H1,kq hh,rfl⟩
      repeat apply dn
      refine dk 35 [3,4,11,12,13,139] [] [] [] (f3 hh (zAa c44) (f3 c7 c29 (f3 c30 c38 (f3 (zae g40) (zae g41) (f2 (zae g42) (zae g43)))))) trivial trivial fun h hh=>?_;repeat apply dn
      refine ct hh ?_;repeat apply dn
      refine rk [6] [] (f3 hh c7 (f3 c29 c30 c38)) fun h hh=>?_;cases H1;obtain rfl:=sinl H;exact rt hh
     clear hh h;rintro h bs ⟨s_4,rfl,hh,rfl⟩;replace H:=sinr H;repeat apply dn
     refine rkp [6] [] [.bool true] (f3 hh c7 (f3 c29 c30 c38)) ?_ ?_
     .exact ⟨ey (fh hx.san (by first|rfl|simp only [c7,c29,c30,c38])),trivial⟩
     clear hh h;intro h hh;cases H;exact rt hh
    repeat apply dn
    refine ct (f2 hh c38) ?_;repeat apply dn
    refine rk [6] [] (f3 hh c7 (f3 c29 c30 c38)) fun h hh=>?_;cases H;exact rt hh
   repeat apply dn
   refine ct (f2 hh c29) ?_;repeat apply dn
   refine rk [6] [] (f3 hh c7 c29) fun h hh=>?_;cases H;exact rt hh
  repeat apply dn
  refine ct (f2 hh (zAa c9)) ?_;repeat apply dn
  refine rkp [6] [] [.bool true] (f2 hh c7) ?_ ?_
  .exact ⟨ey (fh hx.san (by first|rfl|simp only [c7])),trivial⟩
  clear hh h;intro h hh;cases H;exact rt hh
 repeat apply dn
 refine ct (f2 hh c7) ?_;repeat apply dn
 refine rkp [6] [] [.bool true] (f2 hh c7) ?_ ?_
 .exact ⟨ey (fh hx.san (by first|rfl|simp only [c7])),trivial⟩
 clear hh h;intro h hh;cases H;exact rt hh
theorem ya9 (n:Net) (c d:zaw) (hn:Held n) (hc:z2x c) (hd:z2x d):∃ k,zb5 k n c d=some true:=by
  refine ⟨big,?_⟩;generalize hk0:big=k;have hk:big<=k:=Nat.le_of_eq hk0;unfold zb5;obtain ⟨f1,e1,g1⟩:=ydz c 60 hc hk;obtain ⟨f2,e2,g2⟩:=ydz d 60 hd hk;rw [e1,dq,e2,dq];by_cases q1:10<(n.nodes.length:Int)
  . rw [zAc q1];rfl
  rw [zAd q1];by_cases q2:30<(n.links.length:Int)
  . rw [zAc q2];rfl
  rw [zAd q2];by_cases q3:20<(n.edges.length:Int)
  . rw [zAc q3];rfl
  rw [zAd q3]
  cases f1 with
  |false=>rfl
  |true =>
  cases f2 with
  |false=>rfl
  |true =>
  rw [zAc rfl,dq,zAd (by simp)];obtain ⟨r,e3,g3⟩:=yj3 (by simp only [big] at hk;exact hk) n (by omega) (by omega) (by omega) hn;rw [e3,dq];by_cases q4:r=0
  . rw [zAd (fun h=>h q4)];have hR:=g3 q4;rw [yf6 n c hc hk,dq,ydy n c hc hk,dq,z89 c d hc hk,yid c d hc hk,z89 c c hc hk];simp only [dq];have e0:decide True=true:=rfl;rw [e0]
    cases hr:zxx n c with
    |false =>
      cases decide (c=d)<;>rfl
    |true =>
      unfold zxx at hr;simp only [dr,decide_eq_true_eq,ez] at hr;obtain ⟨hr1,hr2,hr3⟩:=hr;have htab:∀ j,j<c.tables.length->c.tables.getD j default∈c.tables:=fun j hj=>zth hj;have hS:yqq n c:=⟨hr1,by omega,fun j hj=>(z4c (hr3 _ (htab j hj))).1,hR.rules⟩
      have hin:∀ x:Option (Bool×Bool),x=some (true,false)->(x.bind fun s_2=>if s_2.2=true then some false else if s_2.1=true then (zhy k n c).bind fun af=>(zjg k n c).bind fun ai=>((zhv k n c).bind fun be=>(zde k af be).bind fun ap=>if ap=true then (zjb k n c).bind fun br=>(zde k ai br).bind fun bw=>some !bw else some true).bind fun s_3=>if s_3=true then some false else (zai k n c af ai k 0).bind fun o=>Sum.elim (fun r=>some r) (fun s_4=>some true) o else some true)=some true:=by
        rintro x rfl;simp only [dq,jd,if_false,if_true];have hel:(exL n c).length=n.nodes.length:=by unfold exL;simp
        have hsl:(spL n c).length=n.nodes.length:=by unfold spL;simp
        rw [ybj hS hk,dq,yf4 hS hk,dq,yay hS hk,dq,zmz _ _ (by rw [hel];simp only [big];omega) hk,dq,zAc (zAa rfl),ydx hS hk,dq,zmz _ _ (by rw [hsl];simp only [big];omega) hk,dq,dq,zAa rfl];simp only [f6,jd,if_false]
        rw [zlz (L:=zai k n c (exL n c) (spL n c)) c.tables false (fun _=>true) hc.tabs (fun m j h=>by
          have h2:j<n.nodes.length:=by omega
          have hb1:=hS.tabs j h;have hb2:=hS.rules j h2;have hmem:=fo h;rw [zai,zAc (zaf h),zAc ⟨by omega,zaf h⟩,zAc ⟨by omega,by omega⟩,zAc ⟨by omega,by omega⟩,zAc ⟨by omega,by omega⟩];have ex:gx (exL n c) (j:Int)=exAt n c j:=by rw [zcg (by omega)];unfold exL;simp
          have sx:gx (spL n c) (j:Int)=spAt n c j:=by rw [zcg (by omega)];unfold spL;simp
          have tx:gx c.tables (j:Int)=c.tables.getD j default:=zjy _ _;have nx:gx n.nodes (j:Int)=n.nodes.getD j default:=zjy _ _;rw [ex,sx,tx,nx];have h1:-9223372036854775808<=(n.nodes.getD j default).rules+exAt n c j/\(n.nodes.getD j default).rules+exAt n c j<=9223372036854775807:=by unfold exAt;omega
          have h3:-9223372036854775808<=(n.nodes.getD j default).rules+exAt n c j - spAt n c j/\(n.nodes.getD j default).rules+exAt n c j - spAt n c j<=9223372036854775807:=by unfold exAt spAt;omega
          rw [wr64 h1,wr64 h3,zAd (by unfold exAt spAt;omega)];have hg:c.tables.getD j default=c.tables[j]:=by rw [ef,dv h];rfl
          have hrt:∀ r,r∈c.tables[j]->zbb r.mat=true:=fun r hrm=>yia (yf1 (hr3 _ hmem) r hrm);rw [hg] at hb1 ⊢
          have hlb:(zow c.tables[j]).length<big:=by
            refine Nat.lt_of_le_of_lt (List.length_filterMap_le _ _) ?_;have:=zya c.tables[j] [];simp only [gh] at this;simp only [big];omega
          rw [z6f hrt (by omega) hk,dq,z5s hrt (by omega) hk,dq,zut _ hlb (fun x hx=>by
            unfold zow at hx;rw [List.mem_filterMap] at hx;obtain ⟨s,_,hs⟩:=hx;unfold zks at hs;split at hs
            . cases hs
            . cases hs;have:=z0p (qs s) c.tables[j] 0
              simp only [big];omega) hk,dq,zAc rfl]) (fun m=>by rw [zai,zAd (by omega)]) (ei hc.tabs hk),dq]
        have:(c.tables.all fun _=>true)=true:=by simp
        rw [this];rfl
      refine hin _ ?_;cases decide (c=d)<;>rfl
  . rw [zAc q4]
theorem heldW {n:Net} (h:ym2 n):Held n:=⟨fun x hx=>(h.1.2 x hx).1,fun x hx=>(h.2.2.2 x hx).1⟩
theorem yns {r:Rule} (h:yb9 r):zqa r:=⟨h.2.2.2.1,fun l hl=>(h.2.2.2.2 l hl).1⟩
theorem ykv {c:zaw} (h:zs6 c):z2x c:=⟨h.2.1.1,fun t ht=>⟨(h.2.1.2 t ht).1,fun r hr=>yns ((h.2.1.2 t ht).2 r hr)⟩,h.2.2.1,fun s hs=>(h.2.2.2 s hs).2.2.1.1⟩
theorem law1w (n:Net) (c d:zaw) (wn:ym2 n) (wc:zs6 c) (wd:zs6 d):∃ k,zb5 k n c d=some true :=
  ya9 n c d (heldW wn) (ykv wc) (ykv wd)
end Go.Proofs.YteifcnjpjjaikaaGreat
