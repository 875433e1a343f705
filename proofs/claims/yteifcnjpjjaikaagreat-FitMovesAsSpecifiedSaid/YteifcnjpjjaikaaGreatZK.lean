/- Part 11 of the proof of FitMovesAsSpecified (several texts in one; no further condition). -/
import Derived.Test.YteifcnjpjjaikaaGreatZJ
import Derived.Test.YteifcnjpjjaikaaGreatZH
import Derived.Test.YteifcnjpjjaikaaGreatZF
import Derived.Test.YteifcnjpjjaikaaGreatZI
set_option linter.unusedSimpArgs false
set_option linter.unusedVariables false
set_option linter.unusedSectionVars false
namespace Go.Proofs.YteifcnjpjjaikaaGreat
set_option maxHeartbeats 8000000
open _root_.And renaming intro->dr
open _root_.Bool renaming and_eq_true->dz,and_self->ef,and_true->kp,not_eq_true'->ou,not_false->gd,not_true->ge
open _root_.Int renaming toNat_natCast->ot
open Go.IntKind renaming i64->dx
open _root_.List renaming all_cons->gy,all_eq_true->fe,all_nil->nq,any_cons->n6,append_assoc->ew,append_nil->fo,cons_append->fk,drop_eq_getElem_cons->jd,drop_length->nu,drop_succ_cons->jh,drop_zero->fl,flatten_cons->f5,flatten_nil->ff,getD_eq_getElem?_getD->eh,getElem?_append_right->gi,getElem?_cons_succ->jb,getElem?_cons_zero->fp,getElem?_drop->js,getElem?_eq_getElem->d6,getElem_map->m5,getElem_mem->fi,length_append->ep,length_cons->et,length_map->ed,length_nil->gb,length_set->ln,mem_append->qi,mem_map->ic,nil_append->eu,range->iz,range'_succ->mz,range_eq_range'->lj,replicate->el,set_append_right->qj,set_cons_succ->jo,set_cons_zero->ju
open _root_.Nat renaming lt_or_ge->jl,reduceAdd->d8,reduceEqDiff->d9,reduceLT->fm,reduceLeDiff->jk,reduceMul->fw,reduceSub->gp,sub_self->me,zero_add->fy,zero_le->ft
open _root_.Option renaming bind_some->dw
open Go.Proofs.YteifcnjpjjaikaaGreat.Pure renaming clr->f6
open Go.Proofs.YteifcnjpjjaikaaGreat.T renaming ren->pg,renL->ne
open Go.Proofs.YteifcnjpjjaikaaGreat.TS renaming add_ne->l7,add_same->m6,set_ne->gr,set_same->im
open Go.Proofs.YteifcnjpjjaikaaGreat.TW renaming block->ey,seq->dv
open Go.Proofs.YteifcnjpjjaikaaGreat.zap renaming call->fc
set_option maxRecDepth 100000
open Go Go.RowKit
theorem znx {α:Type} {L:Nat->Int->List α->Nat->Option (List α×Nat)} (n:Nat) (v:Nat->α) (a0:List α) (hn:n<big) (hs:∀ m (j:Nat) l,j<n->l.length=a0.length+j->L (m+1) (j:Int) l l.length=L m (dx.wrap ((j:Int)+1)) (l++[v j]) (l.length+1)) (he:∀ m l,L (m+1) (n:Int) l l.length=some (l,l.length)) {k:Nat} (hk:n<k):L k 0 a0 a0.length=some (a0++(iz n).map v,a0.length+n):=by
  have key:∀ (m j:Nat),j<=n->n - j<m->L m (j:Int) (a0++(iz j).map v) (a0++(iz j).map v).length=some (a0++(iz n).map v,a0.length+n):=by
    intro m
    induction m with
    |zero=>intro j h1 h2;omega
    |succ m ih =>
      intro j h1 h2;rcases jl j n with h|h
      . rw [hs m j _ h (by simp),zc7 j (by simp only [big] at hn;omega)];have:=ih (j+1) (by omega) (by omega);have e3:(a0++(iz j).map v++[v j]).length=(a0++(iz j).map v).length+1:=by rw [ep];rfl
        rw [List.range_succ,List.map_append,List.map_singleton,<- ew,e3] at this;exact this
      . obtain rfl:j=n:=by omega
        rw [he m _];simp
  have:=key k 0 (ft _) (by omega);rw [List.range_zero,List.map_nil,fo] at this;exact this
theorem zlv {α β:Type} [Inhabited α] (l:List α) (f:α->β):(iz l.length).map (fun j=>f (l.getD j default))=l.map f:=by
  apply List.ext_getElem
  . simp
  . intro i h1 h2;simp only [m5,List.getElem_range];rw [eh,d6 (by simpa using h2)];rfl
def ydh (k:Nat) (P:Pat) (F:Pat->Pat):Prop:=∀ m,zas m=true->zif k P m=some (F m)/\zll k P m=some (F m)/\zas (F m)=true
theorem thenF {k:Nat} {P:Pat} (hP:zas P=true) (hk:160<k):∃ F,ydh k P F:=by
  refine ⟨fun m=>if h:zas m=true then Classical.choose (yd5 hP h hk) else m,fun m hm=>?_⟩;simp only [dif_pos hm];exact Classical.choose_spec (yd5 hP hm hk)
def zo2 (F:Pat->Pat) (a:Alt):Alt:=⟨a.link,F a.mod⟩
def z8d (F:Pat->Pat) (l:List (List Alt)):List (List Alt):=l.map fun x=>x.map (zo2 F)
def zvy (l:List (List Alt)):Prop:=l.length<=16/\∀ x,x∈l->x.length<=8/\∀ a,a∈x->zas a.mod=true
section
variable {k:Nat} {s:Spot} {F:Pat->Pat} (hF:ydh k (spP s) F) (hk:big<=k)
include hF hk
theorem z1p {l:List (List Alt)} (hl:zvy l):zf4 k l s.port s.tag=some (z8d F l):=by
  have inner:∀ i (h:i<l.length),zb7 k l s.port s.tag (i:Int) k 0 [] 0=some (l[i].map (zo2 F),l[i].length):=by
    intro i h;obtain ⟨h8,hm⟩:=hl.2 _ (fi h)
    have:=znx (L:=zb7 k l s.port s.tag (i:Int)) l[i].length (fun j=>zo2 F (l[i].getD j default)) [] (by simp only [big];omega) (fun m j acc hj ha=>by
      simp only [gb,fy] at ha;rw [zb7,zAc ⟨by omega,zae h⟩,zbz h,zAc (zae hj),zAc ⟨by omega,zae hj⟩,zbz hj];unfold zpl;rw [zvn,dw,dw];have he:(⟨s.port,s.tag⟩:Spot)=s:=rfl;rw [he,(hF _ (hm _ (fi hj))).2.1,dw,zAc (by omega),eh,d6 hj]
      rfl) (fun m acc=>by rw [zb7,zAc ⟨by omega,zae h⟩,zbz h,zAd (by omega)]) (k:=k) (by simp only [big] at hk;omega)
    rw [zlv,eu,gb,fy] at this;exact this
  unfold zf4
  have:=znx (L:=zb8 k l s.port s.tag) l.length (fun j=>(l.getD j default).map (zo2 F)) [] (by have:=hl.1;simp only [big];omega) (fun m j acc hj ha=>by
    simp only [gb,fy] at ha;have:=hl.1;rw [zb8,zAc (zae hj)];have e:=inner j hj;rw [e,dw,zAc (by simp),zAc (by omega),dw,eh,d6 hj]
    rfl) (fun m acc=>by rw [zb8,zAd (by omega)]) (k:=k) (by have:=hl.1;simp only [big] at hk;omega)
  rw [zlv (f:=fun x:List Alt=>x.map (zo2 F)),eu,gb,fy] at this;have e:(zb8 k l s.port s.tag k 0 [] 0:Option (List (List Alt)×Nat))=_:=this;rw [e,dw,zAc (by simp)];rfl
theorem ysb (CL:List Rule×List Int) (i2 i3:Int) {li:List Alt} (hli:gx ((gx CL.1 i2).outs) i3=li) (h8:li.length<=8) (hm:∀ a,a∈li->zas a.mod=true):zfk k CL (spP s) i2 i3 k 0 li=some (li.map (zo2 F)):=by
  have key:∀ (m j:Nat),j<=li.length->li.length - j<m->zfk k CL (spP s) i2 i3 m (j:Int) ((li.take j).map (zo2 F)++li.drop j)=some (li.map (zo2 F)):=by
    intro m
    induction m with
    |zero=>intro j h1 h2;omega
    |succ m ih =>
      intro j h1 h2;rw [zfk,hli];rcases jl j li.length with h|h
      . have hlen:((li.take j).map (zo2 F)).length=j:=by simp;omega
        have hd:((li.take j).map (zo2 F)++li.drop j).getD j default=li[j]:=by
          rw [eh,gi (by omega),hlen,me,js,Nat.add_zero,d6 h];rfl
        rw [zAc (zae h),zAc ⟨by omega,zae h⟩,zAc (by simp;omega),ot,hd,(hF _ (hm _ (fi h))).1,dw,zc7 j (by omega)]
        have e:((li.take j).map (zo2 F)++li.drop j).set j (zo2 F li[j])=(li.take (j+1)).map (zo2 F)++li.drop (j+1):=by
          rw [qj _ _ (by omega),hlen,me,jd h,ju,<- List.take_append_getElem h,List.map_append,ew];rfl
        have:=ih (j+1) (by omega) (by omega);rw [<- e] at this;exact this
      . obtain rfl:j=li.length:=by omega
        rw [zAd (by omega),nu,fo,List.take_length]
  have:=key k 0 (ft _) (by simp only [big] at hk;omega);rw [List.take_zero,List.map_nil,eu,fl] at this;exact this
theorem ysc (CL:List Rule×List Int) (i2:Int) (hl:zvy (gx CL.1 i2).outs):zer k CL (spP s) i2 k 0 [] 0=some (z8d F (gx CL.1 i2).outs,(gx CL.1 i2).outs.length):=by
  have:=znx (L:=zer k CL (spP s) i2) (gx CL.1 i2).outs.length (fun j=>((gx CL.1 i2).outs.getD j default).map (zo2 F)) [] (by have:=hl.1;simp only [big];omega) (fun m j acc hj ha=>by
    simp only [gb,fy] at ha;have h16:=hl.1;obtain ⟨h8,hm⟩:=hl.2 _ (fi hj);rw [zer,zAc (zae hj),zAc ⟨by omega,zae hj⟩,zAc (by rw [zbz hj];omega)];have e:=ysb hF hk CL i2 (j:Int) (zbz hj) h8 hm;rw [zbz hj,e,dw,zAc (by simp),zAc (by omega),dw,eh,d6 hj]
    rfl) (fun m acc=>by rw [zer,zAd (by omega)]) (k:=k) (by have:=hl.1;simp only [big] at hk;omega)
  rw [zlv (f:=fun x:List Alt=>x.map (zo2 F)),eu,gb,fy] at this;exact this
end
def zxc (F:Pat->Pat) (back first:Int) (CL:List Rule) (i:Nat):Rule:=⟨0,spP ⟨back,first+1+(i:Int)⟩,(CL.getD i default).step,z8d F (CL.getD i default).outs⟩
section
variable {k:Nat} {m_:Offl} {F:Pat->Pat} {CL:List Rule} (hF:ydh k (spP ⟨m_.port,m_.tag⟩) F) (hk:big<=k) (hf:1<=m_.first/\m_.first<=65535) (hc:∀ r,r∈CL->zvy r.outs) (hn:CL.length<=4000)
include hF hk hf hc hn
theorem yl0 (j:Nat) (h:j<=100000):dx.wrap (dx.wrap (m_.first+1)+(j:Int))=m_.first+1+(j:Int):=by
  rw [wr64 (n:=m_.first+1) (by omega),wr64 (by omega)]
theorem ysd (o:List Int) (a0:List Rule) (ha:a0.length<=4001):zes k m_ (CL,o) (spP ⟨m_.port,m_.tag⟩) k 0 a0 a0.length=some (a0++(iz CL.length).map (zxc F m_.back m_.first CL),a0.length+CL.length):=by
  refine znx (L:=zes k m_ (CL,o) (spP ⟨m_.port,m_.tag⟩)) CL.length _ a0 (by simp only [big];omega) (fun m j acc hj hacc=>?_) (fun m acc=>?_) (by simp only [big] at hk;omega)
  . have hr:zvy (gx (CL,o).1 (j:Int)).outs:=by
      rw [zbz (l:=CL) hj];exact hc _ (fi hj)
    rw [zes,zAc (zae (b:=CL.length) hj),zAc ⟨by omega,zae (b:=CL.length) hj⟩];have e:=ysc hF hk (CL,o) (j:Int) hr;rw [e,dw];unfold zbm;rw [dw,zAc (by unfold z8d;simp),zAc (by omega),dw,yl0 hF hk hf hc hn j (by omega)];rfl
  . rw [zes,zAd (by show ¬ ((CL.length:Int)<(CL.length:Int));omega)]
theorem yrm (a0:List Rule) (ha:a0.length<=4001):zen k m_ CL k 0 a0 a0.length=some (a0++(iz CL.length).map (zxc F m_.back m_.first CL),a0.length+CL.length):=by
  refine znx (L:=zen k m_ CL) CL.length _ a0 (by simp only [big];omega) (fun m j acc hj hacc=>?_) (fun m acc=>?_) (by simp only [big] at hk;omega)
  . have hr:zvy (gx CL (j:Int)).outs:=by
      rw [zbz (l:=CL) hj];exact hc _ (fi hj)
    rw [zen,zAc (zae hj),zvn,dw,zAc ⟨by omega,zae hj⟩];have e:=z1p (s:=⟨m_.port,m_.tag⟩) hF hk hr;have e2:zf4 k (gx CL (j:Int)).outs m_.port m_.tag=_:=e;rw [e2,dw,zAc (by omega),yl0 hF hk hf hc hn j (by omega)];rfl
  . rw [zen,zAd (by omega)]
end
theorem z2o (CL:List Rule) (r:Rule):0<=zi2 CL r/\zi2 CL r<=(CL.length:Int):=by
  unfold zi2;split
  . next h =>
    have h2:¬ idxB (fun x=>simB x r) CL<0:=fun e=>zq3.1 e h;have:=zwh h2;omega
  . omega
def zxk (m_:Offl) (CL:List Rule) (r:Rule):Rule:=⟨0,⟨r.mat.mask,(r.mat.bits.set 0 m_.out).set 9 m_.first⟩,-1,if zf3 r=true then [] else [[⟨m_.back,spP ⟨m_.back,m_.first+1+zi2 CL r⟩⟩]]⟩
def numT (t:List Rule):List Rule:=(iz t.length).map fun i=>({ t.getD i default with prio:=(t.length:Int) - (i:Int) }:Rule)
theorem zq0 (t:List Rule):(numT t).length=t.length:=by unfold numT;simp
theorem z1x {t:List Rule} {i:Nat} (h:i<t.length):(numT t)[i]'(by rw [zq0];exact h)=({ t[i] with prio:=(t.length:Int) - (i:Int) }:Rule):=by
  unfold numT;simp only [m5,List.getElem_range];rw [eh,d6 h];rfl
theorem ztj {k:Nat} {t:List Rule} (ht:t.length<=10000) (hk:big<=k):ze8 k t.length t=some (numT t):=by
  have key:∀ (m j:Nat),j<=t.length->t.length - j<m->zce k t.length m (j:Int) ((numT t).take j++t.drop j)=some (numT t):=by
    intro m
    induction m with
    |zero=>intro j h1 h2;omega
    |succ m ih =>
      intro j h1 h2;rw [zce];have hl:=zq0 t;rcases jl j t.length with h|h
      . have hlen:((numT t).take j).length=j:=by rw [List.length_take];omega
        have hd:((numT t).take j++t.drop j).getD j default=t[j]:=by
          rw [eh,gi (by omega),hlen,me,js,Nat.add_zero,d6 h];rfl
        rw [zAc (zae h),zAc ⟨by omega,zae h⟩,zAc (by rw [ep,hlen,List.length_drop];omega),ot,hd,zc7 j (by omega),wr64 (n:=(t.length:Int) - (j:Int)) (by omega)]
        have e:((numT t).take j++t.drop j).set j { t[j] with prio:=(t.length:Int) - (j:Int) }=(numT t).take (j+1)++t.drop (j+1):=by
          rw [qj _ _ (by omega),hlen,me,jd h,ju,<- List.take_append_getElem (by omega:j<(numT t).length),z1x h,ew];rfl
        have:=ih (j+1) (by omega) (by omega);rw [<- e] at this;exact this
      . obtain rfl:j=t.length:=by omega
        rw [zAd (by omega),nu,fo,List.take_of_length_le (by omega)]
  unfold ze8;have:=key k 0 (ft _) (by simp only [big] at hk;omega);rw [List.take_zero,eu,fl] at this;have e:(zce k t.length k 0 t:Option (List Rule))=_:=this;rw [e,dw,zAc (zq0 t)]
theorem zs6 {k:Nat} {t:List Rule} (ht:t.length<=10000) (hk:big<=k):zgr k t=some (numT t):=by
  unfold zgr
  have:=znx (L:=zcj k t) t.length (fun i=>({ t.getD i default with prio:=(t.length:Int) - (i:Int) }:Rule)) [] (by simp only [big];omega) (fun m j acc hj ha=>by
    simp only [gb,fy] at ha;rw [zcj,zAc (zae hj),zAc ⟨by omega,zae hj⟩,zAc (by omega),wr64 (n:=(t.length:Int) - (j:Int)) (by omega)]
    rfl) (fun m acc=>by rw [zcj,zAd (by omega)]) (k:=k) (by simp only [big] at hk;omega)
  rw [eu,gb,fy] at this;have e:(zcj k t k 0 [] 0:Option (List Rule×Nat))=_:=this;rw [e,dw,zAc (by simp)];rfl
def yb9 (t:List Rule) (back first:Int) (n:Nat):Bool:=(iz n).any fun j=>ztz t ⟨back,first+1+(j:Int)⟩
section
variable {k:Nat} {c:zam} {m_:Offl} {CL:List Rule} (hk:big<=k) (hf:1<=m_.first/\m_.first<=65535 - (CL.length:Int)) (hr:∀ r,r∈gx c.tables m_.node->zas r.mat=true) (hl:(gx c.tables m_.node).length<big) (hb:zcz m_.back=true)
include hk hf hr hl hb
theorem yq9 {j:Nat} (h:j<CL.length):zcz (m_.first+1+(j:Int))=true/\dx.wrap (dx.wrap (m_.first+1)+(j:Int))=m_.first+1+(j:Int):=by
  refine ⟨zAa ⟨by omega,by omega⟩,?_⟩;rw [wr64 (n:=m_.first+1) (by omega),wr64 (by omega)]
theorem yse (o:List Int) (u:Bool):zet k c m_ (CL,o) k u 0=some (u || yb9 (gx c.tables m_.node) m_.back m_.first CL.length):=by
  have key:∀ (m j:Nat) (u:Bool),j<=CL.length->CL.length - j<m->zet k c m_ (CL,o) m u (j:Int)=some (u || (List.range' j (CL.length - j)).any fun j=>ztz (gx c.tables m_.node) ⟨m_.back,m_.first+1+(j:Int)⟩):=by
    intro m
    induction m with
    |zero=>intro j u h1 h2;omega
    |succ m ih =>
      intro j u h1 h2;rw [zet];show (if (j:Int)<(CL.length:Int) then _ else _)=_;rcases jl j CL.length with h|h
      . obtain ⟨t1,t2⟩:=yq9 hk hf hr hl hb h;rw [zAc (zae h),show CL.length - j=(CL.length - (j+1))+1 by omega,mz,n6,zc7 j (by omega)]
        cases u with
        |true=>rw [zAc rfl,ih (j+1) true (by omega) (by omega)];simp
        |false =>
          rw [zAd (by simp),t2];have e:=z5d (s:=⟨m_.back,m_.first+1+(j:Int)⟩) hr hl hb t1 hk;rw [e,dw,ih (j+1) _ (by omega) (by omega),Bool.false_or]
      . obtain rfl:j=CL.length:=by omega
        rw [zAd (by omega),me];simp
  have:=key k 0 u (ft _) (by simp only [big] at hk;omega);rw [Nat.sub_zero,<- lj] at this;exact this
theorem yrn (u:Bool):zeo k c m_ CL k u 0=some (u || yb9 (gx c.tables m_.node) m_.back m_.first CL.length):=by
  have key:∀ (m j:Nat) (u:Bool),j<=CL.length->CL.length - j<m->zeo k c m_ CL m u (j:Int)=some (u || (List.range' j (CL.length - j)).any fun j=>ztz (gx c.tables m_.node) ⟨m_.back,m_.first+1+(j:Int)⟩):=by
    intro m
    induction m with
    |zero=>intro j u h1 h2;omega
    |succ m ih =>
      intro j u h1 h2;rw [zeo];rcases jl j CL.length with h|h
      . obtain ⟨t1,t2⟩:=yq9 hk hf hr hl hb h;rw [zAc (zae h),show CL.length - j=(CL.length - (j+1))+1 by omega,mz,n6,zc7 j (by omega),t2];have e:=z3x (s:=⟨m_.back,m_.first+1+(j:Int)⟩) hr hl hb t1 hk;have e2:zho k (gx c.tables m_.node) m_.back (m_.first+1+(j:Int))=_:=e;rw [e2,dw]
        cases u with
        |true=>rw [zAc rfl,ih (j+1) true (by omega) (by omega)];simp
        |false=>rw [zAd (by simp),ih (j+1) _ (by omega) (by omega),Bool.false_or]
      . obtain rfl:j=CL.length:=by omega
        rw [zAd (by omega),me];simp
  have:=key k 0 u (ft _) (by simp only [big] at hk;omega);rw [Nat.sub_zero,<- lj] at this;exact this
end
section
variable {k:Nat} {c:zam} {m_:Offl} {CL:List Rule} {B:List Int} (hk:big<=k) (hf:1<=m_.first/\m_.first<=65535) (hn:CL.length<=4000) (hB:∀ i,i∈B->0<=i/\i<((gx c.tables m_.node).length:Int)) (hBl:B.length<=4000)
include hk hf hn hB hBl
theorem yoj (r:Rule):dx.wrap (dx.wrap (m_.first+1)+zi2 CL r)=m_.first+1+zi2 CL r:=by
  have:=z2o CL r;rw [wr64 (n:=m_.first+1) (by omega),wr64 (by omega)]
theorem ysa (p q:Int) (b:Bool) (u:List Rule) (hu:u.length<=4000):zd4 k c m_ ((⟨p,q,B⟩:zfe),b) (CL,(zbn (gx c.tables m_.node) B).map fun r=>if zf3 r=true then -1 else zi2 CL r) k 0 u u.length=some (u++(zbn (gx c.tables m_.node) B).map (zxk m_ CL),u.length+B.length):=by
  have hrl:(zbn (gx c.tables m_.node) B).length=B.length:=by unfold zbn;simp
  have:=znx (L:=zd4 k c m_ ((⟨p,q,B⟩:zfe),b) (CL,(zbn (gx c.tables m_.node) B).map fun r=>if zf3 r=true then -1 else zi2 CL r)) B.length (fun j=>zxk m_ CL ((zbn (gx c.tables m_.node) B).getD j default)) u (by simp only [big];omega) (fun m j acc hj ha=>by
    have hq:=hB _ (fi hj);rw [zd4];show (if (j:Int)<(B.length:Int) then _ else _)=_;have hg:gx (α:=Int) ((⟨p,q,B⟩:zfe),b).1.rules (j:Int)=B[j]:=zbz hj
    have ho:gx ((zbn (gx c.tables m_.node) B).map fun r=>if zf3 r=true then -1 else zi2 CL r) (j:Int)=if zf3 (gx (gx c.tables m_.node) B[j])=true then -1 else zi2 CL (gx (gx c.tables m_.node) B[j]):=by
      rw [zbz (by rw [ed,hrl];exact hj),m5];unfold zbn;rw [m5]
    have hv:(zbn (gx c.tables m_.node) B).getD j default=gx (gx c.tables m_.node) B[j]:=by
      rw [eh,d6 (by rw [hrl];exact hj)];unfold zbn;rw [m5];rfl
    rw [zAc (zae hj),zAc ⟨by omega,zae hj⟩,hg,zAc hq,zAc (by omega),zAc (by omega),zAc ⟨by omega,by rw [ed,hrl];exact zae hj⟩,ho,hv];generalize gx (gx c.tables m_.node) B[j]=r;have hc:=z2o CL r;unfold zxk;by_cases hd:zf3 r=true
    . rw [zAc hd,zAd (by omega),zAc (by omega),zAc hd]
    . rw [zAd hd,zAc hc.1,yoj hk hf hn hB hBl,zAd hd];unfold zlp zbm;rw [dw,dw,zAc (by omega)]
      rfl) (fun m acc=>by rw [zd4];exact zAd (by show ¬ ((B.length:Int)<(B.length:Int));omega)) (k:=k) (by simp only [big] at hk;omega)
  rw [<- hrl,zlv (f:=zxk m_ CL),hrl] at this;exact this
theorem yrl (hc:∀ x,x∈CL->zia x) (u:List Rule) (hu:u.length<=4000):zd0 k c m_ B CL k 0 u u.length=some (u++(zbn (gx c.tables m_.node) B).map (zxk m_ CL),u.length+B.length):=by
  have hrl:(zbn (gx c.tables m_.node) B).length=B.length:=by unfold zbn;simp
  have:=znx (L:=zd0 k c m_ B CL) B.length (fun j=>zxk m_ CL ((zbn (gx c.tables m_.node) B).getD j default)) u (by simp only [big];omega) (fun m j acc hj ha=>by
    have hq:=hB _ (fi hj)
    have hv:(zbn (gx c.tables m_.node) B).getD j default=gx (gx c.tables m_.node) B[j]:=by
      rw [eh,d6 (by rw [hrl];exact hj)];unfold zbn;rw [m5];rfl
    rw [zd0,zAc (zae hj),zAc ⟨by omega,zae hj⟩,zbz hj,zAc hq,zAc (by omega),zAc (by omega),(z2g k _).2,dw,hv];generalize gx (gx c.tables m_.node) B[j]=r;have hdd:decide (r.step=-1/\r.outs.length=0)=zf3 r:=rfl;show (if decide (r.step=-1/\r.outs.length=0)=true then _ else _)=_;rw [hdd];unfold zxk;by_cases hd:zf3 r=true
    . rw [zAc hd,zAc (by omega),zAc hd]
    . rw [zAd hd,zAd hd];show Option.bind (zhp k CL r) _=_;rw [z3y CL r hc (by simp only [big];omega) hk,dw,yoj hk hf hn hB hBl];unfold zjx zpl
      rw [zvn,dw,dw,dw,zAc (by omega)]) (fun m acc=>by rw [zd0,zAd (by omega)]) (k:=k) (by simp only [big] at hk;omega)
  rw [<- hrl,zlv (f:=zxk m_ CL),hrl] at this;exact this
end
theorem ydv (k:Nat) (a b:Int):zcy k a b=some (decide (0<=a/\a<b)):=by
  unfold zcy;by_cases h:0<=a
  . rw [zAc h];congr 1;rw [decide_eq_decide];exact ⟨fun x=>⟨h,x⟩,fun x=>x.2⟩
  . rw [zAd h];congr 1;exact (zAb fun x=>h x.1).symm
def InR (n:Net) (m_:Offl):Prop:=(0<=m_.node/\m_.node<(n.nodes.length:Int))/\(0<=m_.out/\m_.out<(n.links.length:Int))/\(0<=m_.back/\m_.back<(n.links.length:Int))/\(0<=m_.port/\m_.port<65536)/\(0<=m_.tag/\m_.tag<65536)
instance (n:Net) (m_:Offl):Decidable (InR n m_):=by unfold InR;infer_instance
theorem zhf {b:Bool} {P:Prop} [Decidable P] (h:b=true↔¬ P):some b=some (!decide P):=by
  congr 1;by_cases hp:P
  . rw [zAa hp]
    cases b with
    |false=>rfl
    |true=>exact absurd hp (h.1 rfl)
  . rw [zAb hp];exact h.2 hp
theorem yhp (k:Nat) (n:Net) (m_:Offl):((zcy k m_.node (n.nodes.length:Int)).bind fun r1=>(if r1=true then ((zcy k m_.out (n.links.length:Int)).bind fun r12=>(if r12=true then ((zcy k m_.back (n.links.length:Int)).bind fun r13=>(if r13=true then ((zcy k m_.port 65536).bind fun r14=>(if r14=true then ((zcy k m_.tag 65536).bind fun r15=>some (!r15)) else some true)) else some true)) else some true)) else some true))=some (!decide (InR n m_)):=by
  simp only [ydv,dw,decide_eq_true_eq];unfold InR;split
  . split
    . split
      . split
        . rename_i a b c d;refine zhf ⟨fun h=>?_,fun h=>?_⟩
          . simp only [ou,decide_eq_false_iff_not] at h;exact fun x=>h x.2.2.2.2
          . simp only [ou,decide_eq_false_iff_not];exact fun x=>h ⟨a,b,c,d,x⟩
        . rename_i w;exact zhf ⟨fun _ x=>w x.2.2.2.1,fun _=>rfl⟩
      . rename_i w;exact zhf ⟨fun _ x=>w x.2.2.1,fun _=>rfl⟩
    . rename_i w;exact zhf ⟨fun _ x=>w x.2.1,fun _=>rfl⟩
  . rename_i w;exact zhf ⟨fun _ x=>w x.1,fun _=>rfl⟩
theorem yho (n:Net) (m_:Offl):(if m_.node<0 then some true else (if (n.nodes.length:Int)<=m_.node then some true else (if m_.out<0 then some true else (if (n.links.length:Int)<=m_.out then some true else (if m_.back<0 then some true else (if (n.links.length:Int)<=m_.back then some true else (if m_.port<0 then some true else (if 65535<m_.port then some true else (if m_.tag<0 then some true else some (decide (65535<m_.tag)))))))))))  = some (!decide (InR n m_)):=by
  unfold InR;repeat' split
  all_goals first
    |exact zhf ⟨fun _ x=>by omega,fun _=>rfl⟩
    |exact zhf ⟨fun h x=>by have:=zAe h;omega,fun h=>zAa (by omega)⟩
def ydj (n:Net) (m_:Offl):Prop:=(gx n.links m_.out).frm=m_.node/\(gx n.links m_.back).frm=(gx n.links m_.out).to/\(gx n.links m_.back).to=m_.node
instance (n:Net) (m_:Offl):Decidable (ydj n m_):=by unfold ydj;infer_instance
theorem yk6 (n:Net) (m_:Offl):(if ((gx n.links m_.out).frm)≠m_.node then some true else (if ((gx n.links m_.back).frm)≠((gx n.links m_.out).to) then some true else some (decide (((gx n.links m_.back).to)≠m_.node))))=some (!decide (ydj n m_)):=by
  unfold ydj;repeat' split
  . next h=>exact zhf ⟨fun _ x=>h x.1,fun _=>rfl⟩
  . next h=>exact zhf ⟨fun _ x=>h x.2.1,fun _=>rfl⟩
  . next a b =>
    refine zhf ⟨fun h x=>zAe h x.2.2,fun h=>zAa fun e=>h ⟨Decidable.of_not_not a,Decidable.of_not_not b,e⟩⟩
def tabA (F:Pat->Pat) (m_:Offl) (t:List Rule):List Rule:=(woL (bix t ⟨m_.port,m_.tag⟩) 0 t++[(⟨0,spP ⟨m_.port,m_.tag⟩,-1,[[⟨m_.out,spP ⟨m_.out,m_.first⟩⟩]]⟩:Rule)])++(iz (zf0 [] (zbn t (bix t ⟨m_.port,m_.tag⟩))).length).map (zxc F m_.back m_.first (zf0 [] (zbn t (bix t ⟨m_.port,m_.tag⟩))))
def tabB (m_:Offl) (t u:List Rule):List Rule:=u++(zbn t (bix t ⟨m_.port,m_.tag⟩)).map (zxk m_ (zf0 [] (zbn t (bix t ⟨m_.port,m_.tag⟩))))
structure yoy (n:Net) (c:zam) (m_:Offl) (F:Pat->Pat) (d:zam):Prop where
  inr:InR n m_
  ends:ydj n m_
  some:bix (gx c.tables m_.node) ⟨m_.port,m_.tag⟩≠[]
  first:1<=m_.first/\m_.first<=65535 - ((zf0 [] (zbn (gx c.tables m_.node) (bix (gx c.tables m_.node) ⟨m_.port,m_.tag⟩))).length:Int)
  free:ztz (gx c.tables (gx n.links m_.out).to) ⟨m_.out,m_.first⟩=false
  used:yb9 (gx c.tables m_.node) m_.back m_.first (zf0 [] (zbn (gx c.tables m_.node) (bix (gx c.tables m_.node) ⟨m_.port,m_.tag⟩))).length=false
  lenA:(tabA F m_ (gx c.tables m_.node)).length<=4000
  lenB:(tabB m_ (gx c.tables m_.node) (gx c.tables (gx n.links m_.out).to)).length<=4000
  eq:d=⟨c.version,(c.tables.set m_.node.toNat (numT (tabA F m_ (gx c.tables m_.node)))).set ((gx n.links m_.out).to).toNat (numT (tabB m_ (gx c.tables m_.node) (gx c.tables (gx n.links m_.out).to))),c.steps⟩
theorem zth {α:Type} [Inhabited α] {l:List α} {i:Int} (h:0<=i/\i<(l.length:Int)):gx l i∈l:=by
  obtain ⟨j,rfl⟩:∃ j:Nat,i=(j:Int):=⟨i.toNat,by omega⟩;rw [zbz (by omega)];exact fi _
theorem ykb {n:Net} {steps:Int} {r:Rule} (h:zj9 n steps r=true):zia r/\zvy r.outs:=by
  unfold zj9 at h;simp only [dz,decide_eq_true_eq,fe] at h;obtain ⟨_,_,h1,h2⟩:=h
  have key:∀ l,l∈r.outs->l.length<=8/\∀ a,a∈l->zas a.mod=true:=fun l hl=>by
    have:=h2 l hl;unfold fOut at this;simp only [dz,decide_eq_true_eq,fe] at this;refine ⟨this.1.2,fun a ha=>?_⟩;have:=this.2 a ha;unfold fAlt at this;simp only [dz] at this;exact this.2
  exact ⟨⟨by simp only [big];omega,fun l hl=>by have:=(key l hl).1;simp only [big];omega⟩,by omega,key⟩
theorem zlu {n:Net} {c:zam} (h:zm0 n c=true):c.tables.length=n.nodes.length/\c.steps.length<=1000/\∀ t,t∈c.tables->t.length<=4000/\∀ r,r∈t->zj9 n (c.steps.length:Int) r=true:=by
  unfold zm0 at h;simp only [dz,decide_eq_true_eq,fe] at h;exact ⟨h.1,h.2.1,fun t ht=>⟨(z5y (h.2.2 t ht)).1,yhx (h.2.2 t ht)⟩⟩
theorem yjp {k:Nat} {n:Net} {c:zam} {m_:Offl} (hk:big<=k) (hn:zoy n) (hc:zm0 n c=true):∃ d e,ziu k n c m_=some (d,e)/\zir k n c m_=some ⟨d,e⟩/\((e≠0/\d=⟨0,[],[]⟩)\/(e=0/\∃ F,ydh k (spP ⟨m_.port,m_.tag⟩) F/\yoy n c m_ F d)):=by
  obtain ⟨hc1,hc2,hc3⟩:=zlu hc;have hnn:=hn.nodes;have hnl:=hn.links;have hT:true=true:=rfl;have hF1:¬ (false=true):=by simp
  have hN:¬ ((!true)=true):=by simp
  have hM:(!false)=true:=rfl;unfold ziu zir;rw [yhp,yho,dw,dw];by_cases q1:InR n m_
  rotate_left
  . rw [zAb q1,zAc hM,zAc hM];exact ⟨_,_,rfl,rfl,.inl ⟨by decide,rfl⟩⟩
  have q1':=q1;obtain ⟨p1,p2,p3,p4,p5⟩:=q1';rw [zAa q1,zAd hN,zAd hN,zAc p2,zAc p3,zAc p2,zAc p3,yk6,dw];by_cases q2:ydj n m_
  rotate_left
  . rw [zAb q2,zAc hM,dw,zAc hM];exact ⟨_,_,rfl,rfl,.inl ⟨by decide,rfl⟩⟩
  have hto:0<=(gx n.links m_.out).to/\(gx n.links m_.out).to<(c.tables.length:Int):=by
    have:=hn.to m_.out.toNat (by omega);have e:gx n.links m_.out=n.links.getD m_.out.toNat default:=rfl;rw [e,hc1];exact this
  have hno:0<=m_.node/\m_.node<(c.tables.length:Int):=by rw [hc1];exact p1
  obtain ⟨ta,tb⟩:=hc3 _ (zth hno);obtain ⟨ua,ub⟩:=hc3 _ (zth hto);have htr:∀ r,r∈gx c.tables m_.node->zas r.mat=true:=fun r hr=>z9p (tb r hr);have hur:∀ r,r∈gx c.tables (gx n.links m_.out).to->zas r.mat=true:=fun r hr=>z9p (ub r hr);have hport:zcz m_.port=true:=zAa ⟨p4.1,by omega⟩;have htag:zcz m_.tag=true:=zAa ⟨p5.1,by omega⟩;have hout:zcz m_.out=true:=zAa ⟨p2.1,by omega⟩;have hback:zcz m_.back=true:=zAa ⟨p3.1,by omega⟩;have hbunch:=yfn (k:=k) (s:=⟨m_.port,m_.tag⟩) htr (by omega) hport htag hk;have hbunch2:zjm k (gx c.tables m_.node) m_.port m_.tag=some (bix (gx c.tables m_.node) ⟨m_.port,m_.tag⟩):=hbunch;rw [zAa q2,zAd hN,dw,zAd hN,zAc hno,zAc hto,zAc hno,zAc hto,yk3 htr (by omega) hk,hbunch2,dw,dw];have hBm:∀ i,i∈bix (gx c.tables m_.node) ⟨m_.port,m_.tag⟩->0<=i/\i<((gx c.tables m_.node).length:Int):=fun i hi=>z8n hi;have hBl:=yqn (gx c.tables m_.node) ⟨m_.port,m_.tag⟩;by_cases q3:bix (gx c.tables m_.node) ⟨m_.port,m_.tag⟩=[]
  . rw [zAc q3,zAd hF1,q3,zAc (show ((([]:List Int).length:Int)=0) from rfl)];exact ⟨_,_,rfl,rfl,.inl ⟨by decide,rfl⟩⟩
  have hokt:z4e (gx c.tables m_.node):=⟨by simp only [big];omega,fun r hr=>(ykb (tb r hr)).1⟩;have hq3:¬ (((bix (gx c.tables m_.node) ⟨m_.port,m_.tag⟩).length:Int)=0):=fun h=>q3 (List.length_eq_zero_iff.1 (by omega));rw [zAd q3,zAc hT,zAd hq3];have e1:=z72 (k:=k) (b:=⟨m_.port,m_.tag,bix (gx c.tables m_.node) ⟨m_.port,m_.tag⟩⟩) hokt hBm (by show (bix _ _).length<=_;omega) hk;have e2:=z7d (k:=k) hokt hBm (by omega) hk;rw [e1,e2,dw,dw,zqx]
  have hcl:(zf0 [] (zbn (gx c.tables m_.node) (bix (gx c.tables m_.node) ⟨m_.port,m_.tag⟩))).length<=4000/\∀ r,r∈zf0 [] (zbn (gx c.tables m_.node) (bix (gx c.tables m_.node) ⟨m_.port,m_.tag⟩))->r∈gx c.tables m_.node:=by
    obtain ⟨e,h1,h2,h3⟩:=zi1 (zbn (gx c.tables m_.node) (bix (gx c.tables m_.node) ⟨m_.port,m_.tag⟩)) [];rw [eu] at h1;rw [h1];refine ⟨?_,fun r hr=>?_⟩
    . unfold zbn at h2;rw [ed] at h2;omega
    . have:=h3 r hr;unfold zbn at this;obtain ⟨i,hi,rfl⟩:=ic.1 this;exact zth (hBm i hi)
  obtain ⟨F,hF⟩:=thenF (k:=k) (P:=spP ⟨m_.port,m_.tag⟩) (zln hport htag) (by simp only [big] at hk;omega);generalize hB0:bix (gx c.tables m_.node) ⟨m_.port,m_.tag⟩=B at *;generalize hC0:zf0 [] (zbn (gx c.tables m_.node) B)=CL at *;by_cases q4:1<=m_.first/\m_.first<=65535 - (CL.length:Int)
  rotate_left
  . have hg:(if m_.first<1 then some true else some (decide ((dx.wrap (65535 - (CL.length:Int)))<m_.first)))=some true:=by
      rw [wr64 (by omega)];split
      . rfl
      . rw [zAa (by omega)]
    rw [hg,dw,dw,zAc hT,zAc hT];exact ⟨_,_,rfl,rfl,.inl ⟨by decide,rfl⟩⟩
  have hg:(if m_.first<1 then some true else some (decide ((dx.wrap (65535 - (CL.length:Int)))<m_.first)))=some false:=by
    rw [wr64 (by omega),zAd (by omega),zAb (by omega)]
  have hfw:zcz m_.first=true:=zAa ⟨by omega,by omega⟩
  have e3:=z5d (k:=k) (s:=⟨m_.out,m_.first⟩) hur (by simp only [big];omega) hout hfw hk;have e4:=z3x (k:=k) (s:=⟨m_.out,m_.first⟩) hur (by simp only [big];omega) hout hfw hk;have e4':zho k (gx c.tables (gx n.links m_.out).to) m_.out m_.first=_:=e4
  have e5:=yse (k:=k) (c:=c) (m_:=m_) (CL:=CL) hk q4 htr (by simp only [big];omega) hback ((zbn (gx c.tables m_.node) B).map fun r=>if zf3 r=true then -1 else zi2 CL r) (ztz (gx c.tables (gx n.links m_.out).to) ⟨m_.out,m_.first⟩);have e6:=yrn (k:=k) (c:=c) (m_:=m_) (CL:=CL) hk q4 htr (by simp only [big];omega) hback (ztz (gx c.tables (gx n.links m_.out).to) ⟨m_.out,m_.first⟩);rw [hg,dw,dw,zAd hF1,zAd hF1,e3,e4',dw,dw,e5,e6,dw,dw];by_cases q5:(ztz (gx c.tables (gx n.links m_.out).to) ⟨m_.out,m_.first⟩ || yb9 (gx c.tables m_.node) m_.back m_.first CL.length)=true
  . rw [zAc q5,zAc q5];exact ⟨_,_,rfl,rfl,.inl ⟨by decide,rfl⟩⟩
  rw [zAd q5,zAd q5];have hwl:=ydu B (gx c.tables m_.node) 0;have hco:∀ r,r∈CL->zvy r.outs:=fun r hr=>(ykb (tb r (hcl.2 r hr))).2;have hck:∀ r,r∈CL->zia r:=fun r hr=>(ykb (tb r (hcl.2 r hr))).1;have e7:=z0y (k:=k) (t:=gx c.tables m_.node) (B:=B) ta (by simp only [big];omega) hk;have e8:=z7e (k:=k) (t:=gx c.tables m_.node) (B:=B) ta (by simp only [big];omega) hk;have hap:∀ (w:List Rule) (x:Rule),w.length+1=(w++[x]).length:=fun w x=>by simp
  have a1:=ysd (k:=k) (m_:=m_) (CL:=CL) hF hk ⟨q4.1,by omega⟩ hco hcl.1 ((zbn (gx c.tables m_.node) B).map fun r=>if zf3 r=true then -1 else zi2 CL r) (woL B 0 (gx c.tables m_.node)++[(⟨0,spP ⟨m_.port,m_.tag⟩,-1,[[⟨m_.out,spP ⟨m_.out,m_.first⟩⟩]]⟩:Rule)]) (by rw [<- hap];omega);have a2:=yrm (k:=k) (m_:=m_) (CL:=CL) hF hk ⟨q4.1,by omega⟩ hco hcl.1 (woL B 0 (gx c.tables m_.node)++[(⟨0,spP ⟨m_.port,m_.tag⟩,-1,[[⟨m_.out,spP ⟨m_.out,m_.first⟩⟩]]⟩:Rule)]) (by rw [<- hap];omega);have b1:=ysa (k:=k) (c:=c) (m_:=m_) (CL:=CL) (B:=B) hk ⟨q4.1,by omega⟩ hcl.1 hBm (by omega) m_.port m_.tag true (gx c.tables (gx n.links m_.out).to) ua;have b2:=yrl (k:=k) (c:=c) (m_:=m_) (CL:=CL) (B:=B) hk ⟨q4.1,by omega⟩ hcl.1 hBm (by omega) hck (gx c.tables (gx n.links m_.out).to) ua;have sp:∀ s:Spot,zbm k s=some (spP s):=fun _=>rfl;have sd:zlp k m_.out m_.first=some [[⟨m_.out,spP ⟨m_.out,m_.first⟩⟩]]:=rfl
  have so:zjx k m_.out m_.first=some [[⟨m_.out,spP ⟨m_.out,m_.first⟩⟩]]:=by
    unfold zjx zpl;rw [zvn];rfl
  rw [<- hap] at a1 a2;obtain ⟨TA,hTA⟩:∃ TA,TA=(woL B 0 (gx c.tables m_.node)++[(⟨0,spP ⟨m_.port,m_.tag⟩,-1,[[⟨m_.out,spP ⟨m_.out,m_.first⟩⟩]]⟩:Rule)])++(iz CL.length).map (zxc F m_.back m_.first CL):=⟨_,rfl⟩;obtain ⟨TB,hTB⟩:∃ TB,TB=gx c.tables (gx n.links m_.out).to++(zbn (gx c.tables m_.node) B).map (zxk m_ CL):=⟨_,rfl⟩;have lA:TA.length=(woL B 0 (gx c.tables m_.node)).length+1+CL.length:=by rw [hTA,ep,<- hap,ed,List.length_range]
  have lB:TB.length=(gx c.tables (gx n.links m_.out).to).length+B.length:=by rw [hTB];unfold zbn;simp
  rw [<- hTA] at a1 a2;rw [<- hTB] at b1 b2;rw [<- lA] at a1 a2;rw [<- lB] at b1 b2
  have hu:(if (0+(gx c.tables (gx n.links m_.out).to).length)*201<=1000000000 then (if (gx c.tables (gx n.links m_.out).to).length=0 then some ([],0) else some (gx c.tables (gx n.links m_.out).to,(gx c.tables (gx n.links m_.out).to).length)) else none)=some (gx c.tables (gx n.links m_.out).to,(gx c.tables (gx n.links m_.out).to).length):=by
    rw [zAc (by omega)];split
    . next h=>rw [List.length_eq_zero_iff.1 h];rfl
    . rfl
  have hcu:(if (0+c.tables.length)*25<=1000000000 then (if c.tables.length=0 then some ([],0) else some (c.tables,c.tables.length)) else none)=some (c.tables,c.tables.length):=by
    rw [zAc (by omega)];split
    . next h=>omega
    . rfl
  have g1:((woL B 0 (gx c.tables m_.node)).length+1)*201<=1000000000:=by omega
  have g2:(gx c.tables (gx n.links m_.out).to).length*201<=1000000000:=by omega
  rw [e7,e8,dw,dw,sp,sd,zvn,so,dw,dw,dw,dw,dw,zAc g1,zAc g1];rw [a1,a2,dw,dw,zAc g2,hu,dw,b1,b2,dw,dw]
  have hlen:(if 4000<(TA.length:Int) then some true else some (decide (4000<(TB.length:Int))))=some (!decide (TA.length<=4000/\TB.length<=4000)):=by
    split
    . exact zhf ⟨fun _ x=>by omega,fun _=>rfl⟩
    . exact zhf ⟨fun h x=>by have:=zAe h;omega,fun h=>zAa (by omega)⟩
  rw [hlen,dw,dw];by_cases q6:TA.length<=4000/\TB.length<=4000
  rotate_left
  . rw [zAb q6,zAc hM,zAc hM];exact ⟨_,_,rfl,rfl,.inl ⟨by decide,rfl⟩⟩
  have n1:=ztj (k:=k) (t:=TA) (by omega) hk;have n2:=ztj (k:=k) (t:=TB) (by omega) hk;have n3:=zs6 (k:=k) (t:=TA) (by omega) hk;have n4:=zs6 (k:=k) (t:=TB) (by omega) hk;have g3:c.tables.length*25<=1000000000:=by omega
  have g4:m_.node.toNat<c.tables.length:=by omega
  have g5:((gx n.links m_.out).to).toNat<(c.tables.set m_.node.toNat (numT TA)).length:=by rw [ln];omega
  have g6:((c.tables.set m_.node.toNat (numT TA)).set ((gx n.links m_.out).to).toNat (numT TB)).length=c.tables.length:=by rw [ln,ln]
  rw [zAa q6,zAd hN,zAd hN,zAc g3,hcu,dw,n1,n2,dw,dw,zAc g4,zAc g5,zAc g6];have t1:TA.length=TA.length:=rfl;have t2:TB.length=TB.length:=rfl;rw [zAc t1,n3,dw,zAc hno,zAc g4,zAc t2,n4,dw,zAc hto,zAc g5,zAc g6];refine ⟨_,_,rfl,rfl,.inr ⟨rfl,F,hF,?_⟩⟩;have hA:tabA F m_ (gx c.tables m_.node)=TA:=by unfold tabA;rw [hB0,hC0,hTA]
  have hB:tabB m_ (gx c.tables m_.node) (gx c.tables (gx n.links m_.out).to)=TB:=by unfold tabB;rw [hB0,hC0,hTB]
  have q5':ztz (gx c.tables (gx n.links m_.out).to) ⟨m_.out,m_.first⟩=false/\yb9 (gx c.tables m_.node) m_.back m_.first CL.length=false:=by
    cases h1:ztz (gx c.tables (gx n.links m_.out).to) ⟨m_.out,m_.first⟩<;>cases h2:yb9 (gx c.tables m_.node) m_.back m_.first CL.length<;>simp [h1,h2] at q5 ⊢
  exact ⟨q1,q2,by rw [hB0];exact q3,by rw [hB0,hC0];exact q4,q5'.1,by rw [hB0,hC0];exact q5'.2,by rw [hA];exact q6.1,by rw [hB];exact q6.2,by rw [hA,hB]⟩
theorem znk {x:Int} (h:0<=x/\x<=65535):zcz x=true:=zAa h
theorem zr2 {a b:Int} (ha:zcz a=true) (hb:zcz b=true):zas (spP ⟨a,b⟩)=true:=zln ha hb
theorem yi3 {n:Net} {steps:Int} {t:List Rule} (hs:0<=steps/\steps<=1000) (hl:t.length<=4000) (hg:∀ j,j<t.length->znw n steps t j=true):(zm4 n steps t).2=0:=by
  unfold zm4;rw [zAd (by omega),zAd (by omega)]
  have:(iz t.length).findSome? (fun j=>if znw n steps t j=true then none else some ((j:Int),(1:Int)))=none:=by
    rw [List.findSome?_eq_none_iff];intro j hj;rw [zAc (hg j (List.mem_range.1 hj))]
  rw [this]
def core (n:Net) (steps:Int) (r:Rule):Prop:=zas r.mat=true/\(-1<=r.step/\r.step<steps/\r.outs.length<=16)/\r.outs.all (fOut n)=true
theorem z2j {n:Net} {steps:Int} {r:Rule} (h:zj9 n steps r=true):core n steps r:=by
  unfold zj9 at h;simp only [dz,decide_eq_true_eq] at h;exact ⟨h.2.1,h.2.2.1,h.2.2.2⟩
theorem ygh {n:Net} {steps:Int} {t:List Rule} (hs:0<=steps/\steps<=1000) (hl:t.length<=4000) (hc:∀ r,r∈t->core n steps r):(zm4 n steps (numT t)).2=0:=by
  refine yi3 hs (by rw [zq0];exact hl) fun j hj=>?_;have hj2:j<t.length:=by rw [zq0] at hj;exact hj
  have hg:(numT t).getD j default=({ t[j] with prio:=(t.length:Int) - (j:Int) }:Rule):=by
    rw [eh,d6 hj,z1x hj2];rfl
  unfold znw;rw [hg,dz];refine ⟨?_,zAa ?_⟩
  . obtain ⟨c1,c2,c3⟩:=hc _ (fi hj2);unfold zj9;simp only [dz,decide_eq_true_eq];exact ⟨by omega,c1,c2,c3⟩
  . show (t.length:Int) - (j:Int)<ygw (numT t) (j:Int);unfold ygw;split
    . omega
    . have e:(j:Int) - 1=((j - 1:Nat):Int):=by omega
      rw [e,zbz (by omega),z1x (by omega)];show _<(t.length:Int) - ((j - 1:Nat):Int);omega
theorem yah (q:Rule->Bool):∀ (l:List Rule) (i x:Int),x∈idxF q l i->∃ j:Nat,j<l.length/\x=i+(j:Int)/\q (l.getD j default)=true
  |[],i,x,h=>by cases h
  |r :: l,i,x,h=>by
    rw [idxF] at h
    have key:x∈idxF q l (i+1)->∃ j:Nat,j<(r :: l).length/\x=i+(j:Int)/\q ((r :: l).getD j default)=true:=fun h=>by
      obtain ⟨j,h1,h2,h3⟩:=yah q l (i+1) x h;exact ⟨j+1,by simp;omega,by omega,by simpa using h3⟩
    split at h
    . next hq =>
      rcases List.mem_cons.1 h with rfl|h
      . exact ⟨0,by simp,by omega,by simpa using hq⟩
      . exact key h
    . exact key h
theorem yss {t:List Rule} {s:Spot} {i:Int} (h:i∈bix t s):qs s (gx t i)=true:=by
  unfold bix at h;split at h
  . cases h
  . obtain ⟨j,h1,h2,h3⟩:=yah _ _ _ _ h;rw [h2,Int.zero_add];exact h3
theorem zpv:∀ (l acc:List Rule) (r:Rule),r∈l->¬ zf3 r=true->zkh (zf0 acc l) r=true
  |x :: l,acc,r,h,hd=>by
    rcases List.mem_cons.1 h with rfl|h
    . rw [zf0];by_cases hi:zkh acc r=true
      . rw [zAc (Or.inr hi)];obtain ⟨e,h1,_,_⟩:=zi1 l acc;rw [h1];exact zwg hi
      . rw [zAd (fun h=>h.elim hd hi)];obtain ⟨e,h1,_,_⟩:=zi1 l (acc++[r]);rw [h1];refine zwg ?_;unfold zkh;rw [List.any_append,n6,zu5,Bool.true_or,Bool.or_true]
    . rw [zf0];split
      . exact zpv l _ r h hd
      . exact zpv l _ r h hd
theorem ylh {CL:List Rule} {r:Rule} (h:zkh CL r=true):zi2 CL r<(CL.length:Int):=by
  unfold zi2;rw [zAc h];exact (zwh (fun e=>zq3.1 e h)).1
theorem yex {p:Pat} {a b:Int} (hp:zas p=true) (h0:gx p.mask.l 0=65535) (h9:gx p.mask.l 9=65535) (ha:zcz a=true) (hb:zcz b=true):zas ⟨p.mask,(p.bits.set 0 a).set 9 b⟩=true:=by
  obtain ⟨pm,pb,pw⟩:=zb2.1 hp
  have hget:∀ j:Nat,j<10->gx ((p.bits.set 0 a).set 9 b).l (j:Int)=if j=9 then b else if j=0 then a else gx p.bits.l (j:Int):=by
    intro j hj;by_cases j9:j=9
    . rw [zAc j9];subst j9;exact zih (i:=9) b (by omega)
    . rw [zAd j9];have e:=zl2 (a:=p.bits.set 0 a) (i:=9) (j:=j) b hj (fun h=>j9 h.symm);have e2:gx ((p.bits.set 0 a).set 9 b).l (j:Int)=gx (p.bits.set 0 a).l (j:Int):=e;rw [e2];by_cases j0:j=0
      . rw [zAc j0];subst j0;exact zih (i:=0) a (by omega)
      . rw [zAd j0];exact zl2 (i:=0) (j:=j) a hj (fun h=>j0 h.symm)
  refine zb2.2 ⟨pm,zkn fun j hj=>?_,fun i hi hb2=>?_⟩
  . show ∃ n:Nat,gx ((p.bits.set 0 a).set 9 b).l (j:Int)=(n:Int)/\n<65536;rw [hget j hj];split
    . exact zoh hb
    . split
      . exact zoh ha
      . exact zqq pb hj
  . show hbit p.mask i=true;have e:i=16*(i / 16)+(15 - (15 - i % 16)):=by omega
    by_cases j9:i / 16=9
    . rw [e];exact zwu (by omega) (by omega) (by rw [j9];exact h9)
    . by_cases j0:i / 16=0
      . rw [e];exact zwu (by omega) (by omega) (by rw [j0];exact h0)
      . refine pw i hi ?_;have hb3:hbit ((p.bits.set 0 a).set 9 b) i=true:=hb2;unfold hbit hw at hb3 ⊢;rw [hget (i / 16) (by omega),zAd j9,zAd j0] at hb3;exact hb3
theorem ya2 {n:Net} {link tag:Int} (hl:0<=link/\link<(n.links.length:Int)) (h30:n.links.length<=30) (ht:zcz tag=true):fOut n [⟨link,spP ⟨link,tag⟩⟩]=true:=by
  unfold fOut fAlt;simp only [List.length_singleton,gy,nq,kp,dz,decide_eq_true_eq];exact ⟨by omega,by omega,zr2 (znk ⟨hl.1,by omega⟩) ht⟩
theorem ylg {k:Nat} {P:Pat} {F:Pat->Pat} {n:Net} (hF:ydh k P F) {l:List (List Alt)} (h:l.all (fOut n)=true):(z8d F l).all (fOut n)=true:=by
  rw [fe] at h ⊢;intro x hx;obtain ⟨y,hy,rfl⟩:=ic.1 hx;have:=h y hy;unfold fOut at this ⊢;simp only [dz,fe,ed] at this ⊢;refine ⟨this.1,fun a ha=>?_⟩;obtain ⟨b,hb,rfl⟩:=ic.1 ha;have:=this.2 b hb;unfold fAlt zo2 at *;simp only [dz] at this ⊢;exact ⟨this.1,(hF _ this.2).2.2⟩
section
variable {k:Nat} {n:Net} {c d:zam} {m_:Offl} {F:Pat->Pat} (hn:zoy n) (hc:zm0 n c=true) (hF:ydh k (spP ⟨m_.port,m_.tag⟩) F) (M:yoy n c m_ F d)
include hn hc hF M
theorem yd8:∀ r,r∈tabA F m_ (gx c.tables m_.node)->core n (c.steps.length:Int) r:=by
  obtain ⟨hc1,hc2,hc3⟩:=zlu hc;obtain ⟨p1,p2,p3,p4,p5⟩:=M.inr;obtain ⟨f1,f2⟩:=M.first
  have hnl:=hn.links;obtain ⟨ta,tb⟩:=hc3 _ (zth (show 0<=m_.node/\m_.node<(c.tables.length:Int) by rw [hc1];exact p1));intro r hr;unfold tabA at hr;rcases qi.1 hr with hr|hr
  . rcases qi.1 hr with hr|hr
    . exact z2j (tb r (z6q _ _ _ _ hr))
    . rw [List.mem_singleton] at hr;subst hr;refine ⟨zr2 (znk ⟨p4.1,by omega⟩) (znk ⟨p5.1,by omega⟩),⟨by show (-1:Int)<=-1;omega,by show (-1:Int)<_;omega,by simp⟩,?_⟩;rw [gy,nq,kp];exact ya2 p2 hnl (zAa ⟨by omega,by omega⟩)
  . obtain ⟨i,hi,rfl⟩:=ic.1 hr;rw [List.mem_range] at hi
    have hm:∀ x,x∈zf0 [] (zbn (gx c.tables m_.node) (bix (gx c.tables m_.node) ⟨m_.port,m_.tag⟩))->x∈gx c.tables m_.node:=fun x hx=>by
      obtain ⟨e,h1,h2,h3⟩:=zi1 (zbn (gx c.tables m_.node) (bix (gx c.tables m_.node) ⟨m_.port,m_.tag⟩)) [];rw [eu] at h1;rw [h1] at hx;have:=h3 x hx;unfold zbn at this;obtain ⟨i,hi,rfl⟩:=ic.1 this;exact zth (z8n hi)
    generalize zf0 [] (zbn (gx c.tables m_.node) (bix (gx c.tables m_.node) ⟨m_.port,m_.tag⟩))=CL at *;obtain ⟨c1,c2,c3⟩:=z2j (tb _ (hm _ (zue hi)));unfold zxc;refine ⟨zr2 (znk ⟨p3.1,by omega⟩) (znk ⟨by omega,by omega⟩),⟨c2.1,c2.2.1,?_⟩,ylg hF c3⟩;show (z8d F _).length<=16;unfold z8d;rw [ed];exact c2.2.2
theorem yd7:∀ r,r∈tabB m_ (gx c.tables m_.node) (gx c.tables (gx n.links m_.out).to)->core n (c.steps.length:Int) r:=by
  obtain ⟨hc1,hc2,hc3⟩:=zlu hc;obtain ⟨p1,p2,p3,p4,p5⟩:=M.inr;obtain ⟨f1,f2⟩:=M.first
  have hnl:=hn.links;obtain ⟨ta,tb⟩:=hc3 _ (zth (show 0<=m_.node/\m_.node<(c.tables.length:Int) by rw [hc1];exact p1))
  have hto:0<=(gx n.links m_.out).to/\(gx n.links m_.out).to<(c.tables.length:Int):=by
    have:=hn.to m_.out.toNat (by omega);have e:gx n.links m_.out=n.links.getD m_.out.toNat default:=rfl;rw [e,hc1];exact this
  obtain ⟨ua,ub⟩:=hc3 _ (zth hto);intro r hr;unfold tabB at hr;rcases qi.1 hr with hr|hr
  . exact z2j (ub r hr)
  . obtain ⟨x,hx,rfl⟩:=ic.1 hr;have hcl:=fun h=>zpv (zbn (gx c.tables m_.node) (bix (gx c.tables m_.node) ⟨m_.port,m_.tag⟩)) [] x hx h;have hx2:=hx;unfold zbn at hx2;obtain ⟨i,hi,rfl⟩:=ic.1 hx2;have hq:=yss hi;have hcx:=z2j (tb _ (zth (z8n hi)));generalize zf0 [] (zbn (gx c.tables m_.node) (bix (gx c.tables m_.node) ⟨m_.port,m_.tag⟩))=CL at *;generalize gx (gx c.tables m_.node) i=x at *;obtain ⟨c1,c2,c3⟩:=hcx;unfold qs exB at hq;simp only [dz,decide_eq_true_eq] at hq;unfold zxk;have hfw:zcz m_.first=true:=zAa ⟨by omega,by omega⟩
    refine ⟨yex c1 hq.1.1 hq.1.2 (zAa ⟨p2.1,by omega⟩) hfw,⟨by show (-1:Int)<=-1;omega,by show (-1:Int)<_;omega,?_⟩,?_⟩
    . show (if zf3 x=true then ([]:List (List Alt)) else _).length<=16;split<;>simp
    . show (if zf3 x=true then ([]:List (List Alt)) else _).all (fOut n)=true;split
      . rfl
      . next hd =>
        have h1:=ylh (hcl hd);have h2:=z2o CL x;rw [gy,nq,kp];exact ya2 p3 hnl (zAa ⟨by omega,by omega⟩)
theorem zv2:zm0 n d=true/\d.steps=c.steps:=by
  obtain ⟨hc1,hc2,hc3⟩:=zlu hc;have hA:=yd8 hn hc hF M;have hB:=yd7 hn hc hF M;have h1:=M.lenA;have h2:=M.lenB;have he:=M.eq;subst he;refine ⟨?_,rfl⟩;unfold zm0 at hc ⊢;simp only [dz,decide_eq_true_eq,fe,ln] at hc ⊢;refine ⟨hc.1,hc.2.1,fun t ht=>?_⟩;rcases List.mem_or_eq_of_mem_set ht with ht|rfl
  . rcases List.mem_or_eq_of_mem_set ht with ht|rfl
    . exact hc.2.2 t ht
    . exact ygh ⟨by omega,by omega⟩ h1 hA
  . exact ygh ⟨by omega,by omega⟩ h2 hB
end
def zeu (k:Nat) (n:Net) (l:List Offl):Nat->Int->Int->(List (List Rule))->(List zc1)->Option (Int ⊕ (Int×List (List Rule)×List zc1))
 |0,_,_,_,_=>none
 |m+1,i,x,x2,x3=>(if i<(l.length:Int) then (if 0<=i/\i<(l.length:Int) then ((ziu k n (⟨x,x2,x3⟩:zam) (gx l i)).bind fun ag=>(if ag.2≠0 then some (.inl ag.2) else zeu k n l m (dx.wrap (i+1)) ag.1.version ag.1.tables ag.1.steps)) else none) else some (.inr (x,x2,x3)))
def zlt (k:Nat) (n:Net) (c:zam) (d:zam) (l:List Offl):Option Int:=((zeu k n l k 0 c.version c.tables c.steps:Option (Int ⊕ (Int×List (List Rule)×List zc1))).bind fun o=>Sum.elim (fun r=>some r) (fun s_=>((zls k (⟨s_.1,s_.2.1,s_.2.2⟩:zam) d).bind fun aj=>(if aj=true then some 0 else some 7))) o)
theorem z1g (ax:Axs) (hx:NoAx ax) (k:Nat) (n:Net) (c:zam) (d:zam) (l:List Offl) (v:Int) (H:zlt k n c d l=some v):Pure Tryz.prog (EE ax) [] 23 [eNet n,zds c,zds d,zwa l] (.int .i64 v):=by
 rw [zlt] at H;refine en [.tmp 8] 35 [0,1,2,3] (hx.no _ (by decide)) (fn23 ax) ?_;intro h hh;apply dv;refine rk [3,4,5,6] [] hh fun h hh=>?_;repeat apply dv
 refine rk [4,5,6,13,14,15] [] (f2 hh (ti48 ax)) fun h hh=>?_;obtain ⟨o,H1,H⟩:=zad H;refine cu [5,6] 3 (fun h bs=>∃ s_:Int×List (List Rule)×List zc1,o=.inr s_/\(h 5=.ptr 1 0 3/\h 6=.ptr 2 0 3)/\bs=[.cells true 3 [zau n.nodes,zav n.links,zaw n.edges],.cells true 3 [.int .i64 s_.1,zak s_.2.1,zah s_.2.2],.cells true 3 [.int .i64 d.version,zak d.tables,zah d.steps]]) ?_ ?_
 .skip;apply ey;refine TW.loopT [4,5,6,13,14,15] (fun m h bs=>∃ (i:Int) (x:Int) (x2:List (List Rule)) (x3:List zc1),zeu k n l m i x x2 x3=some o/\(h 4=.ptr 0 0 3/\h 5=.ptr 1 0 3/\h 6=.ptr 2 0 3/\h 13=zwa l/\h 14=.int .i64 (l.length:Int)/\h 15=.int .i64 i)/\bs=[.cells true 3 [zau n.nodes,zav n.links,zaw n.edges],.cells true 3 [.int .i64 x,zak x2,zah x3],.cells true 3 [.int .i64 d.version,zak d.tables,zah d.steps]]) ?_ k _ _ ?_;rotate_left
  .exact ⟨0,c.version,c.tables,c.steps,H1,kq hh,rfl⟩
  clear hh h H1;rintro m h bs ⟨i,x,x2,x3,H1,hh,rfl⟩;rcases m with _|m
  .rw [zeu] at H1;cases H1
  rw [zeu] at H1;apply dv;refine rk [4,5,6,13,14,15,16] [] hh fun h hh=>?_;rcases isp H1 with ⟨c1,H1⟩|⟨c1,H1⟩;rotate_left
  .skip;apply dv;refine cf (f2 hh (zAb c1)) ?_;refine xk ?_;cases H1;exact ce hh ⟨_,rfl,kq hh,rfl⟩
  apply dv;refine ct (f2 hh (zAa c1)) ?_;refine sk ?_;apply dv;apply ey;obtain ⟨g2,H1⟩:=isg H1;apply dv;refine rk [4,5,6,10,13,14,15] [] (f3 hh (zaf g2) (f2 (ti48 ax) (ti54 ax))) fun h hh=>?_;obtain ⟨ag,e3,H1⟩:=zad H1;apply dv;refine rkc [4,5,6,11,12,13,14,15] [] [(.tup [zds ag.1,.int .i64 ag.2],stL [.cells true 3 [zau n.nodes,zav n.links,zaw n.edges],.cells true 3 [.int .i64 x,zak x2,zah x3],.cells true 3 [.int .i64 d.version,zak d.tables,zah d.steps],.cells true 6 [.int .i64 ((gx l i).node),.int .i64 ((gx l i).port),.int .i64 ((gx l i).tag),.int .i64 ((gx l i).out),.int .i64 ((gx l i).back),.int .i64 ((gx l i).first)]])] (f2 hh (ti54 ax)) ?_ ?_
  .exact ⟨fc ((zsy ax hx k n (⟨x,x2,x3⟩:zam) (gx l i) ag e3 ).call _),trivial⟩
  clear hh h;intro h hh;repeat apply dv
  refine rk [4,5,6,11,12,13,14,15,27] [] hh fun h hh=>?_;rcases isp H1 with ⟨c4,H1⟩|⟨c4,H1⟩;rotate_left
  .skip;refine cf (f2 hh (zAb c4)) ?_;refine sk ?_;refine rk [4,5,6,13,14,15] [] hh fun h hh=>?_;refine rk [4,5,6,13,14,15] [] hh fun h hh=>?_;exact rd m hh ⟨(dx.wrap (i+1)),ag.1.version,ag.1.tables,ag.1.steps,H1,kq hh,rfl⟩
  refine ct (f2 hh (zAa c4)) ?_;apply dv;refine rk [8] [] hh fun h hh=>?_;cases H1;obtain rfl:=sinl H;exact rt hh
 clear hh h;rintro h bs ⟨s_,rfl,hh,rfl⟩;replace H:=sinr H;obtain ⟨aj,e5,H⟩:=zad H;repeat apply dv
 refine rkp [34] [] [.bool aj] hh ?_ ?_
 .exact ⟨fc ((z3i ax hx k (⟨s_.1,s_.2.1,s_.2.2⟩:zam) d aj e5 ).call _),trivial⟩
 clear hh h;intro h hh;rcases isb H with ⟨c6,H⟩|⟨c6,H⟩;rotate_left
 .skip;refine ct (f2 hh c6) ?_;apply dv;refine rk [8] [] (f2 hh c6) fun h hh=>?_;cases H;exact rt hh
 refine cf (f2 hh c6) ?_;refine sk ?_;apply dv;refine rk [8] [] (f2 hh c6) fun h hh=>?_;cases H;exact rt hh
def zep (k:Nat) (n:Net) (l:List Offl):Nat->Int->Int->(List (List Rule))->(List zc1)->Option (Int ⊕ (Int×List (List Rule)×List zc1))
 |0,_,_,_,_=>none
 |m+1,i,x,x2,x3=>(if i<(l.length:Int) then (if 0<=i/\i<(l.length:Int) then ((zir k n (⟨x,x2,x3⟩:zam) (gx l i)).bind fun ag=>(if ag.e≠0 then some (.inl ag.e) else zep k n l m (dx.wrap (i+1)) ag.c.version ag.c.tables ag.c.steps)) else none) else some (.inr (x,x2,x3)))
def zle (k:Nat) (n:Net) (c:zam) (d:zam) (l:List Offl):Option Int:=((zep k n l k 0 c.version c.tables c.steps:Option (Int ⊕ (Int×List (List Rule)×List zc1))).bind fun o=>Sum.elim (fun r=>some r) (fun s_=>((zjy k (⟨s_.1,s_.2.1,s_.2.2⟩:zam) d).bind fun aj=>(if aj=true then some 0 else some 7))) o)
theorem z09 (ax:Axs) (hx:NoAx ax) (k:Nat) (n:Net) (c:zam) (d:zam) (l:List Offl) (v:Int) (H:zle k n c d l=some v):Pure Tryz.prog (EE ax) [] 24 [eNet n,zds c,zds d,zwa l] (.int .i64 v):=by
 rw [zle] at H;refine en [.tmp 8] 37 [0,1,2,3] (hx.no _ (by decide)) (fn24 ax) ?_;intro h hh;apply dv;refine rk [3,4,5,6] [] hh fun h hh=>?_;repeat apply dv
 refine rk [3,4,5,6,9] [] hh fun h hh=>?_;obtain ⟨o,H1,H⟩:=zad H;refine cu [5,6] 3 (fun h bs=>∃ s_:Int×List (List Rule)×List zc1,o=.inr s_/\(h 5=.ptr 1 0 3/\h 6=.ptr 2 0 3)/\bs=[.cells true 3 [zau n.nodes,zav n.links,zaw n.edges],.cells true 3 [.int .i64 s_.1,zak s_.2.1,zah s_.2.2],.cells true 3 [.int .i64 d.version,zak d.tables,zah d.steps]]) ?_ ?_
 .skip;apply ey;refine TW.loopT [3,4,5,6,9] (fun m h bs=>∃ (i:Int) (x:Int) (x2:List (List Rule)) (x3:List zc1),zep k n l m i x x2 x3=some o/\(h 3=zwa l/\h 4=.ptr 0 0 3/\h 5=.ptr 1 0 3/\h 6=.ptr 2 0 3/\h 9=.int .i64 i)/\bs=[.cells true 3 [zau n.nodes,zav n.links,zaw n.edges],.cells true 3 [.int .i64 x,zak x2,zah x3],.cells true 3 [.int .i64 d.version,zak d.tables,zah d.steps]]) ?_ k _ _ ?_;rotate_left
  .exact ⟨0,c.version,c.tables,c.steps,H1,kq hh,rfl⟩
  clear hh h H1;rintro m h bs ⟨i,x,x2,x3,H1,hh,rfl⟩;rcases m with _|m
  .rw [zep] at H1;cases H1
  rw [zep] at H1;repeat apply dv
  refine rk [3,4,5,6,9,15] [] (f2 hh (ti48 ax)) fun h hh=>?_;rcases isp H1 with ⟨c1,H1⟩|⟨c1,H1⟩;rotate_left
  .skip;refine cf (f2 hh (zAb c1)) ?_;refine xk ?_;cases H1;exact ce hh ⟨_,rfl,kq hh,rfl⟩
  refine ct (f2 hh (zAa c1)) ?_;refine sk ?_;apply dv;apply ey;obtain ⟨g2,H1⟩:=isg H1;obtain ⟨ag,e3,H1⟩:=zad H1;apply dv;refine dk 6 [3,4,5,6,9,10] [] [] [(zw5 ag,stL [.cells true 3 [zau n.nodes,zav n.links,zaw n.edges],.cells true 3 [.int .i64 x,zak x2,zah x3],.cells true 3 [.int .i64 d.version,zak d.tables,zah d.steps]])] (f3 hh (zaf g2) (f3 (ti48 ax) (ti54 ax) (ti56 ax))) trivial ?_ ?_
  .exact ⟨fc ((zsw ax hx k n (⟨x,x2,x3⟩:zam) (gx l i) ag e3 ).call _),trivial⟩
  clear hh h;intro h hh;repeat apply dv
  refine rk [3,4,5,6,9,10,27] [] (f3 hh (ya1 ax) (ti33 ax)) fun h hh=>?_;rcases isp H1 with ⟨c4,H1⟩|⟨c4,H1⟩;rotate_left
  .skip;refine cf (f2 hh (zAb c4)) ?_;refine sk ?_;refine rk [3,4,5,6,9] [] (f2 hh (yn2 ax)) fun h hh=>?_;refine rk [3,4,5,6,9] [] hh fun h hh=>?_;exact rd m hh ⟨(dx.wrap (i+1)),ag.c.version,ag.c.tables,ag.c.steps,H1,kq hh,rfl⟩
  refine ct (f2 hh (zAa c4)) ?_;apply dv;refine rk [8] [] (f3 hh (ya1 ax) (ti33 ax)) fun h hh=>?_;cases H1;obtain rfl:=sinl H;exact rt hh
 clear hh h;rintro h bs ⟨s_,rfl,hh,rfl⟩;replace H:=sinr H;obtain ⟨aj,e5,H⟩:=zad H;apply dv;refine rkp [11] [] [.bool aj] hh ?_ ?_
 .exact ⟨fc ((zsv ax hx k (⟨s_.1,s_.2.1,s_.2.2⟩:zam) d aj e5 ).call _),trivial⟩
 clear hh h;intro h hh;repeat apply dv
 refine rk [36] [] hh fun h hh=>?_;rcases isb H with ⟨c6,H⟩|⟨c6,H⟩;rotate_left
 .skip;refine ct (f2 hh c6) ?_;apply dv;refine rk [8] [] (f2 hh c6) fun h hh=>?_;cases H;exact rt hh
 refine cf (f2 hh c6) ?_;refine sk ?_;apply dv;refine rk [8] [] (f2 hh c6) fun h hh=>?_;cases H;exact rt hh
def zqj (k:Nat) (n:Net) (c:zam) (most:Int):Option Bool:=(((if 10<(n.nodes.length:Int) then some true else (if 30<(n.links.length:Int) then some true else some (decide (20<(n.edges.length:Int))))):Option Bool).bind fun s_=>(if s_=true then some false else ((zlk k n).bind fun aq=>((zoe k c most).bind fun az=>(((if aq≠0 then some true else some (!az)):Option Bool).bind fun s_2=>(if s_2=true then some false else ((zjl k n c).bind fun ak=>some ak)))))))
theorem z65 (ax:Axs) (hx:ylv ax) (k:Nat) (n:Net) (c:zam) (most:Int) (v:Bool) (H:zqj k n c most=some v):Pure Tryz.prog (EE ax) [] 22 [eNet n,zds c,.int .i64 most] (.bool v):=by
 rw [zqj] at H;refine en [.tmp 6] 39 [0,1,2] (hx.no _ (by decide)) (fn22 ax) ?_;intro h hh;apply dv;refine rk [2,3,4] [] hh fun h hh=>?_;obtain ⟨s_,H1,H⟩:=zad H;repeat apply dv
 refine cu [2,3,4,24] 2 (fun h bs=>(h 2=.int .i64 most/\h 3=.ptr 0 0 3/\h 4=.ptr 1 0 3/\h 24=.bool s_)/\bs=[.cells true 3 [zau n.nodes,zav n.links,zaw n.edges],.cells true 3 [.int .i64 c.version,zak c.tables,zah c.steps]]) ?_ ?_
 .skip;rcases isp H1 with ⟨c1,H1⟩|⟨c1,H1⟩;rotate_left
  .skip;rcases isp H1 with ⟨c2,H1⟩|⟨c2,H1⟩;rotate_left
   .skip;refine rk [2,3,4,24] [] (f3 hh (zAb c1) (zAb c2)) fun h hh=>?_;cases H1;exact ce hh ⟨kq hh,rfl⟩
   refine rk [2,3,4,24] [] (f3 hh (zAb c1) (zAa c2)) fun h hh=>?_;cases H1;exact ce hh ⟨kq hh,rfl⟩
  refine rk [2,3,4,24] [] (f2 hh (zAa c1)) fun h hh=>?_;cases H1;exact ce hh ⟨kq hh,rfl⟩
 clear hh h;rintro h bs ⟨hh,rfl⟩;rcases isb H with ⟨c3,H⟩|⟨c3,H⟩;rotate_left
 .skip;refine cf (f2 hh c3) ?_;refine sk ?_;obtain ⟨aq,e4,H⟩:=zad H;apply dv;refine rkp [2,3,4,7] [] [.int .i64 aq] (f2 hh c3) ?_ ?_
  .exact ⟨fc (f6 (z1e ax hx k n aq e4 ) (by first|rfl|simp only [c3])),trivial⟩
  clear hh h;intro h hh;obtain ⟨az,e5,H⟩:=zad H;apply dv;refine rkp [3,4,7,8] [] [.bool az] (f2 hh c3) ?_ ?_
  .exact ⟨fc (f6 (zu1 ax hx k c most az e5 ) (by first|rfl|simp only [c3])),trivial⟩
  clear hh h;intro h hh;obtain ⟨s_2,H1,H⟩:=zad H;repeat apply dv
  refine cu [3,4,35] 2 (fun h bs=>(h 3=.ptr 0 0 3/\h 4=.ptr 1 0 3/\h 35=.bool s_2)/\bs=[.cells true 3 [zau n.nodes,zav n.links,zaw n.edges],.cells true 3 [.int .i64 c.version,zak c.tables,zah c.steps]]) ?_ ?_
  .skip;rcases isp H1 with ⟨c6,H1⟩|⟨c6,H1⟩;rotate_left
   .skip;refine rk [3,4,35] [] (f3 hh (zAb c6) c3) fun h hh=>?_;cases H1;exact ce hh ⟨kq hh,rfl⟩
   refine rk [3,4,35] [] (f3 hh (zAa c6) c3) fun h hh=>?_;cases H1;exact ce hh ⟨kq hh,rfl⟩
  clear hh h;rintro h bs ⟨hh,rfl⟩;rcases isb H with ⟨c7,H⟩|⟨c7,H⟩;rotate_left
  .skip;refine cf (f2 hh c7) ?_;refine sk ?_;obtain ⟨ak,e8,H⟩:=zad H;apply dv;refine rkp [6] [] [.bool ak] (f3 hh c3 c7) ?_ ?_
   .exact ⟨fc (f6 (zp9 ax hx k n c ak e8 ) (by first|rfl|simp only [c3,c7])),trivial⟩
   clear hh h;intro h hh;cases H;exact rt hh
  refine ct (f2 hh c7) ?_;apply dv;refine rk [6] [] (f3 hh c3 c7) fun h hh=>?_;cases H;exact rt hh
 refine ct (f2 hh c3) ?_;apply dv;refine rk [6] [] (f2 hh c3) fun h hh=>?_;cases H;exact rt hh
def za5 (k:Nat) (n:Net) (l:List Offl):Nat->Int->Int->(List (List Rule))->(List zc1)->Option (Bool ⊕ (Int×List (List Rule)×List zc1))
 |0,_,_,_,_=>none
 |m+1,i,x,x2,x3=>(if i<(l.length:Int) then (if 0<=i/\i<(l.length:Int) then ((ziu k n (⟨x,x2,x3⟩:zam) (gx l i)).bind fun ag=>((zir k n (⟨x,x2,x3⟩:zam) (gx l i)).bind fun bv=>(((if ag.2≠bv.e then some true else ((zjy k ag.1 bv.c).bind fun aj=>some (!aj))):Option Bool).bind fun s_3=>(if s_3=true then some (.inl false) else (if ag.2≠0 then some (.inl true) else ((zjl k n ag.1).bind fun ak=>(if ak=true then za5 k n l m (dx.wrap (i+1)) ag.1.version ag.1.tables ag.1.steps else some (.inl false)))))))) else none) else some (.inr (x,x2,x3)))
def zde (k:Nat) (n:Net) (c:zam) (d:zam) (l:List Offl):Option Bool:=((zqj k n c 40).bind fun dp=>((zoe k d 100).bind fun az=>(((if dp=true then (if az=true then some (decide (5<(l.length:Int))) else some true) else some true):Option Bool).bind fun s_=>(if s_=true then some true else ((zlt k n c d l).bind fun aq=>((zle k n c d l).bind fun dq=>(if aq≠dq then some false else ((za5 k n l k 0 c.version c.tables c.steps:Option (Bool ⊕ (Int×List (List Rule)×List zc1))).bind fun o=>Sum.elim (fun r=>some r) (fun s_2=>some true) o))))))))
theorem zk2 (ax:Axs) (hx:ylv ax) (k:Nat) (n:Net) (c:zam) (d:zam) (l:List Offl) (v:Bool) (H:zde k n c d l=some v):Pure Tryz.prog (EE ax) [] 4 [eNet n,zds c,zds d,zwa l] (.bool v):=by
 rw [zde] at H;refine en [.tmp 8] 88 [0,1,2,3] (hx.no _ (by decide)) (fn4 ax) ?_;intro h hh;apply dv;refine rk [3,4,5,6] [] hh fun h hh=>?_;obtain ⟨dp,e1,H⟩:=zad H;apply dv;refine rkp [3,4,5,6,9] [] [.bool dp] hh ?_ ?_
 .exact ⟨fc ((z65 ax hx k n c 40 dp e1 ).call _),trivial⟩
 clear hh h;intro h hh;obtain ⟨az,e2,H⟩:=zad H;apply dv;refine rkp [3,4,5,6,9,10] [] [.bool az] hh ?_ ?_
 .exact ⟨fc ((zu1 ax hx k d 100 az e2 ).call _),trivial⟩
 clear hh h;intro h hh;obtain ⟨s_,H1,H⟩:=zad H;repeat apply dv
 refine cu [3,4,5,6,31] 3 (fun h bs=>(h 3=zwa l/\h 4=.ptr 0 0 3/\h 5=.ptr 1 0 3/\h 6=.ptr 2 0 3/\h 31=.bool s_)/\bs=[.cells true 3 [zau n.nodes,zav n.links,zaw n.edges],.cells true 3 [.int .i64 c.version,zak c.tables,zah c.steps],.cells true 3 [.int .i64 d.version,zak d.tables,zah d.steps]]) ?_ ?_
 .skip;rcases isb H1 with ⟨c3,H1⟩|⟨c3,H1⟩;rotate_left
  .skip;refine rk [3,4,5,6,31] [] (f2 hh c3) fun h hh=>?_;cases H1;exact ce hh ⟨kq hh,rfl⟩
  rcases isb H1 with ⟨c4,H1⟩|⟨c4,H1⟩;rotate_left
  .skip;refine rk [3,4,5,6,31] [] (f3 hh c3 c4) fun h hh=>?_;cases H1;exact ce hh ⟨kq hh,rfl⟩
  refine rk [3,4,5,6,31] [] (f3 hh c3 (f2 c4 (ti48 ax))) fun h hh=>?_;cases H1;exact ce hh ⟨kq hh,rfl⟩
 clear hh h;rintro h bs ⟨hh,rfl⟩;rcases isb H with ⟨c5,H⟩|⟨c5,H⟩;rotate_left
 .skip;refine cf (f2 hh c5) ?_;refine sk ?_;obtain ⟨aq,e6,H⟩:=zad H;obtain ⟨dq,e7,H⟩:=zad H;repeat apply dv
  refine dk 8 [3,4,5,43] [.int .i64 aq] [] [(.int .i64 dq,stL [.cells true 3 [zau n.nodes,zav n.links,zaw n.edges],.cells true 3 [.int .i64 c.version,zak c.tables,zah c.steps],.cells true 3 [.int .i64 d.version,zak d.tables,zah d.steps]])] (f2 hh c5) ?_ ?_ ?_
  .exact ⟨f6 (z1g ax hx k n c d l aq e6 ) (by first|rfl|simp only [c5]),trivial⟩
  .exact ⟨fc (f6 (z09 ax hx k n c d l dq e7 ) (by first|rfl|simp only [c5])),trivial⟩
  clear hh h;intro h hh;rcases isp H with ⟨c8,H⟩|⟨c8,H⟩;rotate_left
  .skip;refine cf (f2 hh (zAb c8)) ?_;refine sk ?_;repeat apply dv
   refine rk [3,4,5,11] [] (f2 hh c5) fun h hh=>?_;obtain ⟨o,H1,H⟩:=zad H;refine cu [] 3 (fun h bs=>∃ s_2:Int×List (List Rule)×List zc1,o=.inr s_2/\(True)/\bs=[.cells true 3 [zau n.nodes,zav n.links,zaw n.edges],.cells true 3 [.int .i64 s_2.1,zak s_2.2.1,zah s_2.2.2],.cells true 3 [.int .i64 d.version,zak d.tables,zah d.steps]]) ?_ ?_
   .skip;apply ey;refine TW.loopT [3,4,5,11] (fun m h bs=>∃ (i:Int) (x:Int) (x2:List (List Rule)) (x3:List zc1),za5 k n l m i x x2 x3=some o/\(h 3=zwa l/\h 4=.ptr 0 0 3/\h 5=.ptr 1 0 3/\h 11=.int .i64 i)/\bs=[.cells true 3 [zau n.nodes,zav n.links,zaw n.edges],.cells true 3 [.int .i64 x,zak x2,zah x3],.cells true 3 [.int .i64 d.version,zak d.tables,zah d.steps]]) ?_ k _ _ ?_;rotate_left
    .exact ⟨0,c.version,c.tables,c.steps,H1,kq hh,rfl⟩
    clear hh h H1;rintro m h bs ⟨i,x,x2,x3,H1,hh,rfl⟩;rcases m with _|m
    .rw [za5] at H1;cases H1
    rw [za5] at H1;repeat apply dv
    refine rk [3,4,5,11,47] [] (f3 hh c5 (ti48 ax)) fun h hh=>?_;rcases isp H1 with ⟨c9,H1⟩|⟨c9,H1⟩;rotate_left
    .skip;refine cf (f2 hh (zAb c9)) ?_;refine xk ?_;cases H1;exact ce hh ⟨_,rfl,kq hh,rfl⟩
    refine ct (f2 hh (zAa c9)) ?_;refine sk ?_;apply dv;apply ey;obtain ⟨g10,H1⟩:=isg H1;obtain ⟨ag,e11,H1⟩:=zad H1;apply dv;refine dk 6 [3,4,5,11,12,13] [] [] [(.tup [zds ag.1,.int .i64 ag.2],stL [.cells true 3 [zau n.nodes,zav n.links,zaw n.edges],.cells true 3 [.int .i64 x,zak x2,zah x3],.cells true 3 [.int .i64 d.version,zak d.tables,zah d.steps]])] (f3 hh c5 (f3 (zaf g10) (ti48 ax) (ti54 ax))) trivial ?_ ?_
    .exact ⟨fc (f6 (zsy ax hx k n (⟨x,x2,x3⟩:zam) (gx l i) ag e11 ) (by first|rfl|simp only [c5])),trivial⟩
    clear hh h;intro h hh;obtain ⟨bv,e12,H1⟩:=zad H1;apply dv;refine dk 6 [3,4,5,11,12,13,14] [] [] [(zw5 bv,stL [.cells true 3 [zau n.nodes,zav n.links,zaw n.edges],.cells true 3 [.int .i64 x,zak x2,zah x3],.cells true 3 [.int .i64 d.version,zak d.tables,zah d.steps],.cells true 3 [.int .i64 ag.1.version,zak ag.1.tables,zah ag.1.steps]])] (f3 hh c5 (f3 (zaf g10) (ti48 ax) (f2 (ti54 ax) (ti56 ax)))) trivial ?_ ?_
    .exact ⟨fc (f6 (zsw ax hx k n (⟨x,x2,x3⟩:zam) (gx l i) bv e12 ) (by first|rfl|simp only [c5])),trivial⟩
    clear hh h;intro h hh;obtain ⟨s_3,H2,H1⟩:=zad H1;repeat apply dv
    refine cu [3,4,5,11,12,13,77] 5 (fun h bs=>(h 3=zwa l/\h 4=.ptr 0 0 3/\h 5=.ptr 1 0 3/\h 11=.int .i64 i/\h 12=.ptr 3 0 3/\h 13=.int .i64 ag.2/\h 77=.bool s_3)/\bs=[.cells true 3 [zau n.nodes,zav n.links,zaw n.edges],.cells true 3 [.int .i64 x,zak x2,zah x3],.cells true 3 [.int .i64 d.version,zak d.tables,zah d.steps],.cells true 3 [.int .i64 ag.1.version,zak ag.1.tables,zah ag.1.steps],.cells true 4 [.int .i64 bv.c.version,zak bv.c.tables,zah bv.c.steps,.int .i64 bv.e]]) ?_ ?_
    .skip;rcases isp H2 with ⟨c13,H2⟩|⟨c13,H2⟩;rotate_left
     .skip;obtain ⟨aj,e14,H2⟩:=zad H2;refine rkp [3,4,5,11,12,13,77] [] [.bool aj] (f3 hh (zAb c13) (f3 c5 (yn2 ax) (f2 (ya1 ax) (ti33 ax)))) ?_ ?_
      .exact ⟨fc (f6 (zsv ax hx k ag.1 bv.c aj e14 ) (by first|rfl|simp only [c5])),trivial⟩
      clear hh h;intro h hh;cases H2;exact ce hh ⟨kq hh,rfl⟩
     refine rk [3,4,5,11,12,13,77] [] (f3 hh (zAa c13) (f3 c5 (ya1 ax) (ti33 ax))) fun h hh=>?_;cases H2;exact ce hh ⟨kq hh,rfl⟩
    clear hh h;rintro h bs ⟨hh,rfl⟩;rcases isb H1 with ⟨c15,H1⟩|⟨c15,H1⟩;rotate_left
    .skip;refine cf (f2 hh c15) ?_;refine sk ?_;repeat apply dv
     refine rk [3,4,5,11,12,79] [] (f3 hh c5 c15) fun h hh=>?_;rcases isp H1 with ⟨c16,H1⟩|⟨c16,H1⟩;rotate_left
     .skip;refine cf (f2 hh (zAb c16)) ?_;refine sk ?_;obtain ⟨ak,e17,H1⟩:=zad H1;apply dv;refine rkp [3,4,5,11,12,15] [] [.bool ak] (f3 hh c5 c15) ?_ ?_
      .exact ⟨fc (f6 (zp9 ax hx k n ag.1 ak e17 ) (by first|rfl|simp only [c5,c15])),trivial⟩
      clear hh h;intro h hh;repeat apply dv
      refine rk [3,4,5,11,12,85] [] (f3 hh c5 c15) fun h hh=>?_;rcases isb H1 with ⟨c18,H1⟩|⟨c18,H1⟩;rotate_left
      .skip;refine ct (f2 hh c18) ?_;apply dv;refine rk [8] [] (f3 hh c5 (f2 c15 c18)) fun h hh=>?_;cases H1;obtain rfl:=sinl H;exact rt hh
      refine cf (f2 hh c18) ?_;refine sk ?_;refine rk [3,4,5,11] [] (f3 hh c5 (f2 c15 c18)) fun h hh=>?_;refine rk [3,4,5,11] [] (f3 hh c5 (f2 c15 c18)) fun h hh=>?_;exact rd m hh ⟨(dx.wrap (i+1)),ag.1.version,ag.1.tables,ag.1.steps,H1,kq hh,rfl⟩
     refine ct (f2 hh (zAa c16)) ?_;apply dv;refine rkp [8] [] [.bool true] (f3 hh c5 c15) ?_ ?_
     .exact ⟨fc (f6 hx.san (by first|rfl|simp only [c5,c15])),trivial⟩
     clear hh h;intro h hh;cases H1;obtain rfl:=sinl H;exact rt hh
    refine ct (f2 hh c15) ?_;apply dv;refine rk [8] [] (f3 hh c5 c15) fun h hh=>?_;cases H1;obtain rfl:=sinl H;exact rt hh
   clear hh h;rintro h bs ⟨s_2,rfl,hh,rfl⟩;replace H:=sinr H;apply dv;refine rkp [8] [] [.bool true] (f2 hh c5) ?_ ?_
   .exact ⟨fc (f6 hx.san (by first|rfl|simp only [c5])),trivial⟩
   clear hh h;intro h hh;cases H;exact rt hh
  refine ct (f2 hh (zAa c8)) ?_;apply dv;refine rk [8] [] (f2 hh c5) fun h hh=>?_;cases H;exact rt hh
 refine ct (f2 hh c5) ?_;apply dv;refine rkp [8] [] [.bool true] (f2 hh c5) ?_ ?_
 .exact ⟨fc (f6 hx.san (by first|rfl|simp only [c5])),trivial⟩
 clear hh h;intro h hh;cases H;exact rt hh
theorem z94 {n:Net} {c:zam} (h:zm0 n c=true) (hn:n.nodes.length<=10) (hk:∀ s,s∈c.steps->s.key.length<big):zty c:=by
  obtain ⟨h1,h2,h3⟩:=zlu h;refine ⟨by simp only [big];omega,fun t ht=>?_,by simp only [big];omega,hk⟩;obtain ⟨a,b⟩:=h3 t ht;exact ⟨by simp only [big];omega,fun r hr=>(ykb (b r hr)).1⟩
theorem yrx:zty ⟨0,[],[]⟩:=⟨by decide,fun t ht=>(by cases ht),by decide,fun s hs=>(by cases hs)⟩
section
variable {k:Nat} {n:Net} (hk:big<=k) (hn:zoy n) {l:List Offl} (hl:l.length<=5) {st:List zc1} (hst:∀ s,s∈st->s.key.length<big)
include hk hn hl hst
theorem yc8:∀ (m j:Nat) (c:zam),j<=l.length->l.length - j<m->zm0 n c=true->c.steps=st->∃ o,zeu k n l m (j:Int) c.version c.tables c.steps=some o/\zep k n l m (j:Int) c.version c.tables c.steps=some o/\∀ y,o=.inr y->zty ⟨y.1,y.2.1,y.2.2⟩:=by
  intro m
  induction m with
  |zero=>intro j c h1 h2;omega
  |succ m ih =>
    intro j c h1 h2 hc hs;rw [zeu,zep];rcases jl j l.length with h|h
    . obtain ⟨d,e,m1,m2,m3⟩:=yjp (m_:=gx l (j:Int)) hk hn hc;have m1':ziu k n (⟨c.version,c.tables,c.steps⟩:zam) (gx l (j:Int))=some (d,e):=m1;have m2':zir k n (⟨c.version,c.tables,c.steps⟩:zam) (gx l (j:Int))=some ⟨d,e⟩:=m2;have hj:(0:Int)<=(j:Int)/\(j:Int)<(l.length:Int):=⟨by omega,zae h⟩;have hj2:=zae h;rw [zAc hj2,zAc hj2,zAc hj,zAc hj,m1',m2',dw,dw];rcases m3 with ⟨he,_⟩|⟨he,F,hF,M⟩
      . rw [zAc he,zAc he];exact ⟨_,rfl,rfl,fun y hy=>by cases hy⟩
      . have hne:¬ e≠0:=fun h=>h he;rw [zAd hne,zAd hne,zc7 j (by omega)];obtain ⟨r1,r2⟩:=zv2 hn hc hF M;exact ih (j+1) d (by omega) (by omega) r1 (by rw [r2,hs])
    . have hnn:¬ ((j:Int)<(l.length:Int)):=by omega
      rw [zAd hnn,zAd hnn];refine ⟨_,rfl,rfl,fun y hy=>?_⟩;cases hy;exact z94 hc hn.nodes (by rw [hs];exact hst)
theorem ycs:∀ (m j:Nat) (c:zam),j<=l.length->l.length - j<m->zm0 n c=true->c.steps=st->∃ o,za5 k n l m (j:Int) c.version c.tables c.steps=some o/\o≠.inl false:=by
  intro m
  induction m with
  |zero=>intro j c h1 h2;omega
  |succ m ih =>
    intro j c h1 h2 hc hs;rw [za5];rcases jl j l.length with h|h
    . obtain ⟨d,e,m1,m2,m3⟩:=yjp (m_:=gx l (j:Int)) hk hn hc;have m1':ziu k n (⟨c.version,c.tables,c.steps⟩:zam) (gx l (j:Int))=some (d,e):=m1;have m2':zir k n (⟨c.version,c.tables,c.steps⟩:zam) (gx l (j:Int))=some ⟨d,e⟩:=m2;have hee:¬ e≠e:=fun h=>h rfl;have hN:¬ ((!true)=true):=by simp
      rw [zAc (zae h),zAc ⟨by omega,zae h⟩,m1',dw,m2',dw,zAd hee];rcases m3 with ⟨he,hd⟩|⟨he,F,hF,M⟩
      . have es:=z1q (k:=k) d d (by rw [hd];exact yrx) hk;rw [zAa rfl] at es;rw [es,dw,dw,zAd hN,zAc he];exact ⟨_,rfl,fun h=>by cases h⟩
      . obtain ⟨r1,r2⟩:=zv2 hn hc hF M;have ho:zty d:=z94 r1 hn.nodes (by rw [r2,hs];exact hst);have es:=z1q (k:=k) d d ho hk;rw [zAa rfl] at es;have er:=z3z (k:=k) n d ho hk;rw [r1] at er;have hne:¬ e≠0:=fun h=>h he;rw [es,dw,dw,zAd hN,zAd hne,er,dw,zAc rfl,zc7 j (by omega)];exact ih (j+1) d (by omega) (by omega) r1 (by rw [r2,hs])
    . rw [zAd (by omega)];exact ⟨_,rfl,fun h=>by cases h⟩
end
theorem ycj {k:Nat} (n:Net) (c:zam) (most:Int) (hn:Held n) (hc:zty c) (hk:big<=k):∃ r,zqj k n c most=some r/\(r=true->zoy n/\zm0 n c=true/\c.steps.length<=40/\∀ t,t∈c.tables->(t.length:Int)<=most):=by
  unfold zqj;by_cases q1:10<(n.nodes.length:Int)
  . rw [zAc q1,dw,zAc rfl];exact ⟨_,rfl,fun h=>by cases h⟩
  rw [zAd q1];by_cases q2:30<(n.links.length:Int)
  . rw [zAc q2,dw,zAc rfl];exact ⟨_,rfl,fun h=>by cases h⟩
  rw [zAd q2,dw];by_cases q3:20<(n.edges.length:Int)
  . rw [zAc (zAa q3)];exact ⟨_,rfl,fun h=>by cases h⟩
  rw [zAd (by rw [decide_eq_true_eq];exact q3)];obtain ⟨r,e3,g3⟩:=ylz (by simp only [big] at hk;exact hk) n (by omega) (by omega) (by omega) hn;obtain ⟨f1,e1,g1⟩:=yfm c most hc hk;rw [e3,dw,e1,dw];by_cases q4:r=0
  rotate_left
  . rw [zAc q4,dw,zAc rfl];exact ⟨_,rfl,fun h=>by cases h⟩
  rw [zAd (fun h=>h q4),dw]
  cases f1 with
  |false=>exact ⟨_,rfl,fun h=>by cases h⟩
  |true =>
    rw [zAd (by simp),z3z n c hc hk,dw];exact ⟨_,rfl,fun h=>⟨g3 q4,h,(g1 rfl).2.1,(g1 rfl).2.2⟩⟩
theorem ygu (n:Net) (c d:zam) (l:List Offl) (hn:Held n) (hc:zty c) (hd:zty d):∃ k,zde k n c d l=some true:=by
  refine ⟨big,?_⟩;generalize hk0:big=k;have hk:big<=k:=Nat.le_of_eq hk0;unfold zde;obtain ⟨r,e1,g1⟩:=ycj n c 40 hn hc hk;obtain ⟨f2,e2,g2⟩:=yfm d 100 hd hk;rw [e1,dw,e2,dw]
  cases r with
  |false=>rfl
  |true =>
  cases f2 with
  |false=>rfl
  |true =>
  rw [zAc rfl,zAc rfl,dw];by_cases q:5<(l.length:Int)
  . rw [zAc (zAa q)]
  rw [zAd (by rw [decide_eq_true_eq];exact q)];obtain ⟨hR,hr,_,_⟩:=g1 rfl;obtain ⟨o,o1,o2,o3⟩:=yc8 (l:=l) hk hR (by omega) hc.keys k 0 c (ft _) (by simp only [big] at hk;omega) hr rfl;have o1':(zeu k n l k 0 c.version c.tables c.steps:Option (Int ⊕ (Int×List (List Rule)×List zc1)))=_:=o1;have o2':(zep k n l k 0 c.version c.tables c.steps:Option (Int ⊕ (Int×List (List Rule)×List zc1)))=_:=o2
  have hch:∃ v,zlt k n c d l=some v/\zle k n c d l=some v:=by
    unfold zlt zle;rw [o1',o2',dw,dw]
    cases o with
    |inl v=>exact ⟨v,rfl,rfl⟩
    |inr y =>
      have hy:=o3 y rfl;show ∃ v,((zls k (⟨y.1,y.2.1,y.2.2⟩:zam) d).bind fun aj=>(if aj=true then some 0 else some 7))=some v/\((zjy k (⟨y.1,y.2.1,y.2.2⟩:zam) d).bind fun aj=>(if aj=true then some 0 else some 7))=some v;rw [yk4 _ d hy hk,z1q _ d hy hk,dw];split
      . exact ⟨_,rfl,rfl⟩
      . exact ⟨_,rfl,rfl⟩
  obtain ⟨v,v1,v2⟩:=hch;rw [v1,v2,dw,dw,zAd (fun h=>h rfl)];obtain ⟨p,p1,p2⟩:=ycs (l:=l) hk hR (by omega) hc.keys k 0 c (ft _) (by simp only [big] at hk;omega) hr rfl;have p1':(za5 k n l k 0 c.version c.tables c.steps:Option (Bool ⊕ (Int×List (List Rule)×List zc1)))=_:=p1;rw [p1',dw]
  cases p with
  |inl b =>
    cases b with
    |true=>rfl
    |false=>exact absurd rfl p2
  |inr y=>rfl
theorem heldW {n:Net} (h:yo3 n):Held n:=⟨fun x hx=>(h.1.2 x hx).1,fun x hx=>(h.2.2.2 x hx).1⟩
theorem ypq {r:Rule} (h:ydx r):zia r:=⟨h.2.2.2.1,fun l hl=>(h.2.2.2.2 l hl).1⟩
theorem yms {c:zam} (h:zt1 c):zty c:=⟨h.2.1.1,fun t ht=>⟨(h.2.1.2 t ht).1,fun r hr=>ypq ((h.2.1.2 t ht).2 r hr)⟩,h.2.2.1,fun s hs=>(h.2.2.2 s hs).2.2.1.1⟩
theorem law2w (n:Net) (c d:zam) (l:List Offl) (wn:yo3 n) (wc:zt1 c) (wd:zt1 d) (wl:l.length<big/\∀ y,y∈l->yl2 y):∃ k,zde k n c d l=some true :=
  ygu n c d l (heldW wn) (yms wc) (yms wd)
end Go.Proofs.YteifcnjpjjaikaaGreat
