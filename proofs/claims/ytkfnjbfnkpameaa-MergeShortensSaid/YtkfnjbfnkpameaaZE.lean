/- Part 5 of the proof of MergeShortens (several texts in one; no further condition). -/
import Derived.Test.YtkfnjbfnkpameaaZD
import Derived.Test.YtkfnjbfnkpameaaProg
import Derived.KernelRfl
import GoSem.Claim
import Derived.ProofKit
import Derived.OpenShut
import Derived.ShutString
import Derived.ChangeOld
import Derived.Below
import Derived.Carry
import Derived.Deep.Slices
import Derived.SizedLaws
import Derived.JoinedCond
import Derived.WalkKit
import Derived.LoopNIn
import Derived.LoopIn
import Derived.Test.YtkfnjbfnkpameaaZC
import Derived.Laws.BitsAllLaws
import Derived.RangeFuncBox
import Derived.RangeFuncLeaves
import Derived.Shelf.Abstract
import Derived.OwnWalkIn
import Derived.TacticsInMore
import Derived.BigRegionIn
import Derived.Deep.MidRow
set_option linter.unusedSimpArgs false
set_option linter.unusedVariables false
set_option linter.unusedSectionVars false
namespace Go.Proofs.Ytkfnjbfnkpameaa
open Go.Addr renaming add_lit->n6
open _root_.And renaming intro->fi
open _root_.Array renaming getElem?_eq_getElem->lf
open _root_.BitVec renaming ofInt->je,toNat_and->ov,toNat_ofInt->lz,toNat_ofNat->py
open _root_.Bool renaming and_eq_true->fp,and_self->gl,eq_iff_iff->lc,true_and->ki
open _root_.Eq renaming trans->gg
open Go.Fence renaming wide->mo
open _root_.Go.RowKit renaming wrap64->qj
open _root_.Int renaming ofNat->qy
open Go renaming IntKind->i5,Operand->gh,Program->gz,TypeId->gw
open Go.IntKind renaming i64->fo
open _root_.List renaming all_cons->ju,append_assoc->gt,append_nil->ic,cons_append->ib,drop_append->mu,drop_append_of_le_length->qs,drop_drop->l6,drop_eq_getElem_cons->ks,drop_of_length_le->i7,drop_succ_cons->ld,drop_zero->gu,flatMap_cons->jh,flatten_cons->ir,getElem?_append_left->gr,getElem?_append_right->iy,getElem?_cons_zero->ik,getElem?_drop->lm,getElem?_eq_getElem->fq,getElem?_eq_some_iff->gm,getElem?_map->ls,getElem_of_mem->m5,length_append->gb,length_cons->gq,length_drop->jm,length_map->f5,length_nil->jl,length_replicate->lp,length_set->qv,length_take->iv,map_cons->jb,map_nil->pk,mem_append->ii,mem_map->jv,mem_singleton->ig,nil_append->gn,range'->pe,range'_succ->pl,replicate->gi,replicate_succ->ji,take_append->pj,take_append_drop->jf,take_append_of_le_length->kg,take_of_length_le->iu,take_zero->ng
open _root_.List.cons renaming injEq->o7
open _root_.Nat renaming add_mul->jt,add_zero->kb,beq->gd,eq_of_beq_eq_true->ft,le_refl->fy,log2->kw,log2_self_le->qk,mod_eq_of_lt->nv,mul_one->qr,not_lt_zero->mn,one_mul->nh,pow_le_pow_right->mb,reduceAdd->gc,reduceSub->i9,zero_add->jc,zero_le->iz
open Go.Op renaming equal->rf,equalIn->lh
open _root_.Option renaming bind_some->fj
open _root_.Option.some renaming injEq->fk
open _root_.Prod.mk renaming injEq->fw
open Go.Proofs.Ytkfnjbfnkpameaa.T renaming cells->jk,flatL->rq,ids->q8,idsL->kv,int->fm,one->nj
open Go.Proofs.Ytkfnjbfnkpameaa.TS renaming set_ne->nl,set_same->nf
open Go.Proofs.Ytkfnjbfnkpameaa.VR renaming ofInt->qa
open Go.Value renaming bool->sn,int->jo,okWide->ru
open Go.World renaming cell?->r9
set_option maxRecDepth 100000
open Go Go.RowKit
structure Ar (n:Nat) where
  l:List Int
  h:l.length=n
deriving DecidableEq
instance {n:Nat}:Inhabited (Ar n):=⟨⟨gi n 0,lp⟩⟩
theorem Ar.ext' {n:Nat} {a b:Ar n} (h:a.l=b.l):a=b:=by cases a;cases b;cases h;rfl
theorem Ar.eq_iff {n:Nat} {a b:Ar n}:a=b↔a.l=b.l:=⟨fun h=>by rw [h],Ar.ext'⟩
def mkAr (n:Nat) (l:List Int):Ar n:=⟨(l++gi n 0).take n,by rw [iv,gb,lp];omega⟩
def zA (n:Nat):Ar n:=⟨gi n 0,lp⟩
def zVs (n:Nat) (k:i5):List Value:=gi n (.int k 0)
theorem yny {n:Nat} {k:i5}:zgn (zVs n k)=some ((zA n).l.map (fm k)):=by
  show zgn (gi n (.int k 0))=some ((gi n 0).map (fm k))
  induction n with
  |zero=>rfl
  |succ n ih=>rw [ji,ji,jb];unfold zgn;rw [ih];rfl
def eAr (k:i5) {n:Nat} (a:Ar n):T:=.agg (a.l.map (fm k))
theorem yfj {k:i5} {n:Nat} (a:Ar n):(eAr k a).cells=a.l.map (fm k):=gg rfl rfl
theorem zgg {k:i5} {n:Nat} (a:Ar n):(eAr k a).cells.length=n:=by rw [yfj,f5,a.h]
theorem zrt {k:i5}:∀ (l:List Int),(l.map (fm k)).all nj=true
  |[]=>rfl
  |x :: l=>by rw [jb,ju,zrt l];rfl
theorem zgq {k:i5} {m:Nat}:∀ (l:List Int),kv m (l.map (fm k))=true
  |[]=>rfl
  |x :: l=>by simp only [jb,kv,q8,zgq l,gl]
theorem yj3 {k:i5} {m n:Nat} (a:Ar n):(eAr k a).ids m=true:=zgq a.l
theorem zvg {k:i5}:∀ (l:List Int),rq (l.map (fm k))=true
  |[]=>rfl
  |x :: l=>by simp only [jb,rq,T.flat,zvg l,gl]
section
variable {P:gz}
theorem z25 (len:Nat) (β:Type) (b:β) (f:Nat->β->Sem (ForInStep β)):(forIn [0:len] b f:Sem β)=forIn (pe 0 len) b f:=by
  rw [Std.Legacy.Range.forIn_eq_forIn_range'];simp [Std.Legacy.Range.size]
theorem zjg {k:i5}:∀ (l:List Int),zgp (l.map (fm k))=some (l.map (jo k))
  |[]=>rfl
  |x :: l=>by rw [jb];unfold zgp;rw [zjg l];rfl
theorem ym2 {σ:Type} (s0 s1:σ) (x y:List Int) (len:Nat) (hx:x.length=len) (hy:y.length=len) (f:Nat->σ->Sem (ForInStep σ))
    (hf:∀ i (hi:i<len),za9 P (f i s0)=some (if x[i]=y[i] then .yield s0 else .done s1)) :
    ∀ (m k:Nat),k+m=len->za9 P (forIn (pe k m) s0 f:Sem σ)=some (if x.drop k=y.drop k then s0 else s1):=by
  intro m
  induction m with
  |zero=>intro k hk;simp [i7 (show x.length<=k by omega),i7 (show y.length<=k by omega)];rfl
  |succ m ih =>
    intro k hk;have hdx:=ks (show k<x.length by omega);have hdy:=ks (show k<y.length by omega);rw [pl,List.forIn_cons,zal,hf k (by omega)];by_cases hxy:x[k]'(by omega)=y[k]'(by omega)
    . rw [zAc hxy];show za9 P (forIn (pe (k+1) m) s0 f)=_;rw [ih (k+1) (by omega),hdx,hdy];simp only [hxy,o7,true_and]
    . rw [zAd hxy,hdx,hdy];simp only [hxy,o7,false_and,if_false];rfl
theorem ypb (d:Nat) {e:gw} (k k':i5) (a b:Int) (he:P.underlying e=some (.int k)):za9 P (lh (d+1) e (.int k' a) (.int k' b))=some (a == b):=by
  unfold lh;rw [zal,zch he];cases k'<;>rfl
theorem ypc (d:Nat) {t e len:Nat} {k:i5} {i:TypeInfo} (ht:P.underlying t=some (.array len e)) (he:P.underlying e=some (.int k)) (hi:P.info? e=some i) (hsz:i.size=1) (x y:List Int) (hx:x.length=len) (hy:y.length=len) :
    za9 P (lh (d+2) t (.agg (x.map (jo k)).toArray) (.agg (y.map (jo k)).toArray))=some (x == y):=by
  have hpart:∀ (l:List Int) (j:Nat) (hk:j<l.length),za9 P (part e (l.map (jo k)).toArray j)=some (.int k l[j]):=by
    intro l j hk
    have hagg:za9 P (isAgg e)=some false:=by
      unfold isAgg;rw [zal,zch he];rfl
    have hp:∀ v:Value,za9 P (pure v:Sem Value)=some v:=fun v=>rfl;simp [part,zal,hagg,hk,hp]
  have hq:∀ a b:Int,za9 P (lh (d+1) e (.int k a) (.int k b))=some (a == b):=fun a b=>ypb d k k a b he;show za9 P (lh ((d+1)+1) _ _ _)=_;generalize d+1=d' at *
  have hsize:za9 P (sizeOf e)=some 1:=by
    unfold sizeOf typeInfo;rw [zal,zal];show ((za9 P (match P.info? e with|some i=>pure i|none=>_)).bind _)=_;rw [hi];show za9 P (pure i.size)=_;rw [hsz];rfl
  have hpu:∀ {α:Type} (v:α),za9 P (pure v:Sem α)=some v:=fun v=>rfl;simp only [lh,zal,zch ht,fj,hsize,z25,qr];rw [ym2 (P:=P) (none,()) (some false,()) x y len hx hy _ ?_ len 0 (by omega)]
  . by_cases hxy:x=y
    . subst hxy;simp [hpu]
    . simp [hxy,hpu]
  . intro j hk;simp only [zal,hpart x j (by omega),hpart y j (by omega),fj,hq];by_cases hxy:x[j]'(by omega)=y[j]'(by omega)
    . have e1:((x[j]'(by omega)) == (y[j]'(by omega)))=true:=by rw [hxy];simp
      rw [e1,zAc hxy];simp [hpu]
    . have e1:((x[j]'(by omega)) == (y[j]'(by omega)))=false:=by
        simp only [beq_eq_false_iff_ne,ne_eq];exact hxy
      rw [e1,zAd hxy];simp [hpu]
variable {Γ:Env} {S:TS} {t:gw} {x y:gh}
theorem yb0 {n e:Nat} {k:i5} (ht:P.underlying t=some (.array n e)) (he:P.underlying e=some (.int k)) (hi:(P.info? e).map (·.size)=some 1) (hq:P.eqGuardType P.depth t=false) (a b:Ar n) :
    tBin P Γ S t .eql x y (eAr k a) (eAr k b)=some (.bool (decide (a=b)))/\tBin P Γ S t .neq x y (eAr k a) (eAr k b)=some (.bool (!(decide (a=b)))):=by
  obtain ⟨i,hi1,hi2⟩:∃ i,P.info? e=some i/\i.size=1:=by
    cases h:P.info? e with
    |none=>rw [h] at hi;simp at hi
    |some i=>rw [h] at hi;exact ⟨i,rfl,by simpa using hi⟩
  have h:=ypc (P:=P) 9998 ht he hi1 hi2 a.l b.l a.h b.h
  have hg:∀ op,op=.eql\/op=.neq->za9 P (eqGuard op t x y (.agg (a.l.map (jo k)).toArray) (.agg (b.l.map (jo k)).toArray))=some ():=by
    intro op hop;rcases hop with rfl|rfl
    . show za9 P (if !(P.eqGuardType P.depth t) then pure () else _)=some ();rw [hq];rfl
    . show za9 P (if !(P.eqGuardType P.depth t) then pure () else _)=some ();rw [hq];rfl
  have hd:(a.l == b.l)=decide (a=b):=by
    by_cases hab:a=b
    . rw [hab];simp
    . rw [zAb hab];have:a.l≠b.l:=fun hh=>hab (Ar.ext' hh);simp [this]
  have he:za9 P (binOp .eql t (.agg (a.l.map (jo k)).toArray) (.agg (b.l.map (jo k)).toArray))=some (.bool (decide (a=b))):=by
    show za9 P (do pure (sn (<- rf t (.agg (a.l.map (jo k)).toArray) (.agg (b.l.map (jo k)).toArray))):Sem Value)=_;have h2:za9 P (rf t (.agg (a.l.map (jo k)).toArray) (.agg (b.l.map (jo k)).toArray))=some (a.l == b.l):=h;rw [zal,h2,hd];rfl
  have hn:za9 P (binOp .neq t (.agg (a.l.map (jo k)).toArray) (.agg (b.l.map (jo k)).toArray))=some (.bool (!(decide (a=b)))):=by
    show za9 P (do pure (sn (!(<- rf t (.agg (a.l.map (jo k)).toArray) (.agg (b.l.map (jo k)).toArray)))):Sem Value)=_;have h2:za9 P (rf t (.agg (a.l.map (jo k)).toArray) (.agg (b.l.map (jo k)).toArray))=some (a.l == b.l):=h;rw [zal,h2,hd];rfl
  constructor
  . show zo2 P t .eql x y _ _=_;unfold zo2;rw [zjg,zjg];simp only;rw [zal,hg _ (.inl rfl)];show (match za9 P (binOp .eql t (.agg (a.l.map (jo k)).toArray) (.agg (b.l.map (jo k)).toArray)) with|some (.bool r)=>some (T.bool r)|_=>none)=_;rw [he]
  . show zo2 P t .neq x y _ _=_;unfold zo2;rw [zjg,zjg];simp only;rw [zal,hg _ (.inr rfl)];show (match za9 P (binOp .neq t (.agg (a.l.map (jo k)).toArray) (.agg (b.l.map (jo k)).toArray)) with|some (.bool r)=>some (T.bool r)|_=>none)=_;rw [hn]
end
section
variable {GL:List (Nat×List Value)} {A A' A2:Nat->Prop} {β β' β2:Bx} {S S' S2:TS} {s s' s2:CS} {P:gz} {Γ:Env} {N:Nat} {h h' h2:Nat->T} {Q R:Exit->(Nat->T)->TS->Prop}
theorem VL.setAt {g:Nat->Fam} {t:T} {v:Value}:∀ {l:List T} {vs:List Value} {i:Nat},VL A β g l vs->vs[i]?=some v->VT A β g t v->VL A β g (l.set i t) vs
  |[],_,_,.nil,_,_=>.nil
  |x :: l,y :: vs,0,.cons k1 k2,hv,ht=>by
    simp only [ik,fk] at hv;subst hv;exact .cons ht k2
  |x :: l,y :: vs,i+1,.cons k1 k2,hv,ht=>.cons k1 (VL.setAt k2 (by simpa using hv) ht)
theorem TW.freezeC {c:Code} (c0 i:Nat) {b e len M N0:Nat} {z z0:Bool} {l l0:List T} (L:List T) (hS0:S.box c0=.cells z0 N0 l0) (hi:l0[i]?=some (.arr b e 0 len len M)) (hne:c0≠b) (hS:S.box b=.cells z M l) (he:0<e) (hoff:0+len*e<=M) (hL:(l.drop 0).take (len*e)=L.flatMap jk) (hs:∀ t,t∈L->t.cells.length=e) (hlen:L.length=len)
    (k:TW P Γ GL N c h ((S.set c0 (.cells z0 N0 (l0.set i (.lst e L)))).set b .gone) Q):TW P Γ GL N c h S Q:=by
  intro A β fr s hF hT;obtain ⟨A',β',k1,k2,k3⟩:=hT.freeze hS;obtain ⟨n0,hc⟩:=hT.cells c0 z0 N0 l0 hS0;have hS0':(S.set b .gone).box c0=.cells z0 N0 l0:=by rw [nl _ _ hne];exact hS0
  obtain ⟨n1,hc'⟩:=k1.cells c0 z0 N0 l0 hS0';have hi0:i<l0.length:=(gm.1 hi).1
  have hnew:zpp A' β' (zaa s.obj) c0 z0 N0 (l0.set i (.lst e L)):=by
    rcases hc with ⟨_,q,_⟩|⟨f,u,cs,rest,a1,a2,a3,a4,a5⟩
    . omega
    . rcases hc' with ⟨_,q,_⟩|⟨f',u',cs',rest',b1,b2,b3,b4,b5⟩
      . omega
      . obtain ⟨l',c1,c2⟩:=k2.bx c0 _ a1;rw [b1] at c1;cases c1;simp only [Loc.le] at c2;rcases c2 with ⟨rfl,rfl,_⟩|c2
        . rw [a3] at b3;simp only [Fam.mk.injEq,o7,fw] at b3;obtain ⟨_,⟨⟨_,rfl⟩,rfl⟩,_⟩:=b3;obtain ⟨v,v1,v2⟩:=a4.get hi;refine ⟨by rw [qv];exact n0,.inr ⟨f,u,cs,rest,b1,a2,a3,b4.setAt v1 (k3 v2 he hoff hL hs hlen (fy _)),a5⟩⟩
        . omega
  have hT':TRel GL A' β' ((S.set c0 (.cells z0 N0 (l0.set i (.lst e L)))).set b .gone) s:=by
    refine ⟨k1.inr,k1.inv,k1.alt,k1.dis,k1.inj,k1.next,fun b' z N' l' hb'=>?_,fun b' l' hb'=>?_,k1.glob⟩
    . by_cases e1:b'=b
      . subst e1;rw [nf] at hb';cases hb'
      . rw [nl _ _ e1] at hb';by_cases e2:b'=c0
        . subst e2;rw [nf] at hb';cases hb';exact hnew
        . rw [nl _ _ e2] at hb';exact k1.cells b' z N' l' (by rw [nl _ _ e1];exact hb')
    . by_cases e1:b'=b
      . subst e1;rw [nf] at hb';cases hb'
      . rw [nl _ _ e1] at hb';by_cases e2:b'=c0
        . subst e2;rw [nf] at hb';cases hb'
        . rw [nl _ _ e2] at hb';exact k1.maps b' l' (by rw [nl _ _ e1];exact hb')
  have hF':FrOk A' β' (zaa s.obj) N h fr:=⟨hF.nt,hF.le,fun u=>k2.vt hT (hF.slot u)⟩;refine (k A' β' fr s hF' hT').mono ?_;rintro e2 fr2 s2 ⟨h2,S2,l2,q2⟩;exact ⟨h2,S2,Left.trans (h':=h) (fr':=fr) hT.le k2 l2,q2⟩
theorem TW.nilC {c:Code} (c0 i e:Nat) {N0:Nat} {z0:Bool} {l0:List T} (hS0:S.box c0=.cells z0 N0 l0) (hi:l0[i]?=some .nils) (k:TW P Γ GL N c h (S.set c0 (.cells z0 N0 (l0.set i (.lst e [])))) Q):TW P Γ GL N c h S Q:=by
  intro A β fr s hF hT;obtain ⟨n0,hc⟩:=hT.cells c0 z0 N0 l0 hS0;have hi0:i<l0.length:=(gm.1 hi).1
  have hnew:zpp A β (zaa s.obj) c0 z0 N0 (l0.set i (.lst e [])):=by
    rcases hc with ⟨_,q,_⟩|⟨f,u,cs,rest,a1,a2,a3,a4,a5⟩
    . omega
    . obtain ⟨v,v1,v2⟩:=a4.get hi;refine ⟨by rw [qv];exact n0,.inr ⟨f,u,cs,rest,a1,a2,a3,a4.setAt v1 ?_,a5⟩⟩;cases v2;exact .lnil
  have hT':TRel GL A β (S.set c0 (.cells z0 N0 (l0.set i (.lst e [])))) s:=by
    refine ⟨hT.inr,hT.inv,hT.alt,hT.dis,hT.inj,hT.next,fun b' z N' l' hb'=>?_,fun b' l' hb'=>?_,hT.glob⟩
    . by_cases e2:b'=c0
      . subst e2;rw [nf] at hb';cases hb';exact hnew
      . rw [nl _ _ e2] at hb';exact hT.cells b' z N' l' hb'
    . by_cases e2:b'=c0
      . subst e2;rw [nf] at hb';cases hb'
      . rw [nl _ _ e2] at hb';exact hT.maps b' l' hb'
  exact k A β fr s hF hT'
theorem TW.vecC {c:Code} (c0 i e:Nat) {N0:Nat} {z0:Bool} {l0:List T} (hS0:S.box c0=.cells z0 N0 l0) (hi:l0[i]?=some .nils) (h0:c0<S.n) (k:TW P Γ GL N c h ((S.set c0 (.cells z0 N0 (l0.set i (.arr S.n e 0 0 0 0)))).add (.cells false 0 [])) Q):TW P Γ GL N c h S Q:=by
  intro A β fr s hF hT;have hb0:β S.n=none:=hT.next _ (fy _)
  have hle:Bx.le β (bnew β S.n .nil):=z0t hb0;have hse:bnew β S.n .nil S.n=some .nil:=zAc rfl;have hne:∀ b',b'≠S.n->bnew β S.n .nil b'=β b':=fun b' hb'=>zAd hb'
  have hown:∀ f,Own (bnew β S.n .nil) f->Own β f:=fun f ⟨b',hb'⟩=>by
    by_cases hi:b'=S.n
    . subst hi;rw [hse] at hb';rcases hb' with ⟨u,N,hb'⟩|hb'<;>simp at hb'
    . rw [hne b' hi] at hb';exact ⟨b',hb'⟩
  have hst:Stp A β s A (bnew β S.n .nil) s:=⟨Can.refl _,fun _ h=>h,fun _ h=>.inl h,fun f hf=>.inl (hown f hf),fun _ _ _=>rfl,hle,fun _ h=>.inl h,fun _ h=>.inl h⟩;obtain ⟨n0,hc⟩:=hT.cells c0 z0 N0 l0 hS0;have hi0:i<l0.length:=(gm.1 hi).1
  have hnew:zpp A (bnew β S.n .nil) (zaa s.obj) c0 z0 N0 (l0.set i (.arr S.n e 0 0 0 0)):=by
    rcases hc with ⟨_,q,_⟩|⟨f,u,cs,rest,a1,a2,a3,a4,a5⟩
    . omega
    . obtain ⟨v,v1,v2⟩:=a4.get hi;have a4':=a4.mono (A':=A) (β':=bnew β S.n .nil) (g':=zaa s.obj) (fun _ h=>h) (fun _ _=>rfl) hle;refine ⟨by rw [qv];exact n0,.inr ⟨f,u,cs,rest,by rw [hne c0 (by omega)];exact a1,a2,a3,a4'.setAt v1 ?_,a5⟩⟩;cases v2;exact .arrNil hse
  have hT':TRel GL A (bnew β S.n .nil) ((S.set c0 (.cells z0 N0 (l0.set i (.arr S.n e 0 0 0 0)))).add (.cells false 0 [])) s:=by
    refine ⟨hT.inr,hT.inv,hT.alt,fun f hf=>hT.dis f (hown f hf),fun b1 b2 l1 l2 f h1 h2 h3 h4=>?_,fun b' hb'=>?_,fun b' z N l hb'=>?_,fun b' l hb'=>?_,hT.glob⟩
    . by_cases e1:b1=S.n
      . subst e1;rw [hse] at h1;cases h1;simp [Loc.fam] at h3
      . by_cases e2:b2=S.n
        . subst e2;rw [hse] at h2;cases h2;simp [Loc.fam] at h4
        . rw [hne b1 e1] at h1;rw [hne b2 e2] at h2;exact hT.inj b1 b2 l1 l2 f h1 h2 h3 h4
    . have:S.n+1<=b':=hb';rw [hne b' (by omega)];exact hT.next b' (by omega)
    . by_cases hi:b'=S.n
      . subst hi;have hq:=(TS.add_same (S.set c0 (.cells z0 N0 (l0.set i (.arr S.n e 0 0 0 0)))) (.cells false 0 [])).symm.trans hb';cases hq;exact ⟨rfl,.inl ⟨hse,rfl,rfl⟩⟩
      . rw [TS.add_ne _ _ (show b'≠(S.set c0 (.cells z0 N0 (l0.set i (.arr S.n e 0 0 0 0)))).n from hi)] at hb';by_cases e2:b'=c0
        . subst e2;rw [nf] at hb';cases hb';exact hnew
        . rw [nl _ _ e2] at hb';exact (hT.cells b' z N l hb').mono (fun _ h=>h) (fun _ _=>rfl) hle (hne b' hi) fun _ _ _ _=>rfl
    . by_cases hi:b'=S.n
      . subst hi;have hq:=(TS.add_same (S.set c0 (.cells z0 N0 (l0.set i (.arr S.n e 0 0 0 0)))) (.cells false 0 [])).symm.trans hb';cases hq
      . rw [TS.add_ne _ _ (show b'≠(S.set c0 (.cells z0 N0 (l0.set i (.arr S.n e 0 0 0 0)))).n from hi)] at hb';by_cases e2:b'=c0
        . subst e2;rw [nf] at hb';cases hb'
        . rw [nl _ _ e2] at hb';exact (hT.maps b' l hb').mono (fun _ h=>h) (fun _ _=>rfl) hle (hne b' hi) fun _ _=>rfl
  have hF':FrOk A (bnew β S.n .nil) (zaa s.obj) N h fr:=⟨hF.nt,hF.le,fun u=>hst.vt hT (hF.slot u)⟩;refine (k A _ fr s hF' hT').mono ?_;rintro e2 fr2 s2 ⟨h2,S2,l2,q2⟩;exact ⟨h2,S2,Left.trans (h':=h) (fr':=fr) hT.le hst l2,q2⟩
end
theorem zgm {α:Type} (f:α->T) (l:List α):(l.map f).flatMap jk=vecC f l:=rfl
theorem ze4 {α:Type} {f:α->T} (h:∀ x,(f x).cells.all nj=true):∀ (l:List α),(vecC f l).all nj=true
  |[]=>rfl
  |x :: l=>by
    have ih:=ze4 h l;unfold vecC at ih ⊢;rw [jb,jh,List.all_append,h,ih];rfl
def Le1:List T->List T->Prop
  |[],[]=>True
  |t :: l,t' :: l'=>(t=t'\/(t=.nils/\∃ e,t'=.lst e []))/\Le1 l l'
  |_,_=>False
def Le2:List T->List T->Prop
  |[],[]=>True
  |t :: l,t' :: l'=>(t=t'\/(t=.nils/\∃ e,t'=.lst e [])\/∃ m m',t=.agg m/\t'=.agg m'/\Le1 m m')/\Le2 l l'
  |_,_=>False
theorem Le1.vl {A:Nat->Prop} {β:Bx} {g:Nat->Fam}:∀ {l l':List T} {vs:List Value},Le1 l l'->VL A β g l vs->VL A β g l' vs
  |[],[],_,_,.nil=>.nil
  |t :: l,t' :: l',_,h,.cons k1 k2=>by
    obtain ⟨h1,h2⟩:=h;rcases h1 with rfl|⟨rfl,e,rfl⟩
    . exact .cons k1 (Le1.vl h2 k2)
    . cases k1;exact .cons .lnil (Le1.vl h2 k2)
theorem Le2.vl {A:Nat->Prop} {β:Bx} {g:Nat->Fam}:∀ {l l':List T} {vs:List Value},Le2 l l'->VL A β g l vs->VL A β g l' vs
  |[],[],_,_,.nil=>.nil
  |t :: l,t' :: l',_,h,.cons k1 k2=>by
    obtain ⟨h1,h2⟩:=h;rcases h1 with rfl|⟨rfl,e,rfl⟩|⟨m,m',rfl,rfl,h3⟩
    . exact .cons k1 (Le2.vl h2 k2)
    . cases k1;exact .cons .lnil (Le2.vl h2 k2)
    . cases k1 with|agg k=>exact .cons (.agg (h3.vl k)) (Le2.vl h2 k2)
theorem ypj {n:Nat} {i:Int} (h:0<=i/\i<=(n:Int)):zb1 n n (some (.int .i64 i)) none none=some (i.toNat,n,n):=by
  obtain ⟨k,rfl⟩:∃ k:Nat,i=(k:Int):=⟨i.toNat,by omega⟩;exact yik rfl (by omega) (fy _)
theorem Ar.len {n:Nat} (a:Ar n):a.l.length=n:=a.h
def Ar.set {n:Nat} (a:Ar n) (i v:Int):Ar n:=⟨a.l.set i.toNat v,by rw [qv,a.h]⟩
theorem yfi {k:i5} {n:Nat} (a:Ar n):eAr k a=.agg (a.l.map (fm k)):=gg rfl rfl
theorem arIx {n:Nat} (a:Ar n) {i:Int} (h:0<=i/\i<(n:Int)):a.l[i.toNat]?=some (gx a.l i):=zag (by rw [a.h];exact h)
theorem arSpl {k:i5} {n:Nat} (a b:Ar n):spl (a.l.map (fm k)) 0 (b.l.map (fm k))=b.l.map (fm k):=by
  unfold spl;rw [ng,gn,i7 (by rw [f5,f5,a.h,b.h];omega),ic]
theorem ypo {k:i5} {n:Nat} (a:Ar n) {i:Int} (v:Int) (h:0<=i/\i<(n:Int)):spl (a.l.map (fm k)) i.toNat [fm k v]=(a.set i v).l.map (fm k):=by
  exact ymb (f:=fm k) (v:=v) (L:=a.l) (i:=i.toNat) (by rw [a.h];omega)
def u8o (z:Int):UInt8:=UInt8.ofNat z.toNat
def strL (l:List Int):ByteArray:=⟨(l.map u8o).toArray⟩
def bytL (s:ByteArray):List Int:=s.data.toList.map fun c=>(c.toNat:Int)
theorem z9k (s:ByteArray):(bytL s).length=s.size:=by unfold bytL;rw [f5];exact Array.length_toList
theorem z30 (s:ByteArray):zh2 s=(bytL s).map (fm .u8):=by
  unfold zh2 bytL;rw [List.map_map];rfl
theorem z0v:∀ (l:List Int),zvy (l.map (fm .u8))=some (l.map u8o)
  |[]=>rfl
  |x :: l=>by rw [jb];unfold zvy;rw [z0v l];rfl
theorem z6n (l:List Int):(⟨(l.map u8o).toArray⟩:ByteArray)=strL l:=gg rfl rfl
theorem z0q {k:i5}:∀ (l:List Int),(l.map (fm k)).flatMap jk=l.map (fm k)
  |[]=>rfl
  |x :: l=>by rw [jb,jh,z0q l];rfl
theorem yl5 {k:i5} {l:List Int} {n:Nat} (h:l.length=n):(l.map (fm k)).take n=l.map (fm k):=iu (by rw [f5,h];omega)
theorem ybs {k:i5} {l:List Int}:(l.map (fm k)).take l.length=l.map (fm k):=yl5 rfl
def cpA {n:Nat} (a:Ar n) (s:ByteArray):Ar n:=⟨(bytL s).take (min s.size n)++a.l.drop (min s.size n),by rw [gb,iv,jm,z9k,a.h];omega⟩
theorem ylq {n:Nat} (a:Ar n) (s:ByteArray):spl (a.l.map (fm .u8)) 0 (((bytL s).map (fm .u8)).take (min s.size n))=(cpA a s).l.map (fm .u8):=by
  unfold spl cpA;rw [ng,gn,iv,f5,z9k,List.map_append,List.map_take,List.map_drop,jc];congr 2;omega
theorem ygd {k:i5} {l:List Int} {n:Nat}:((l.map (fm k)).take n).all nj=true:=by rw [<- List.map_take];exact zrt _
theorem ylp {n:Nat}:zb1 n n none none none=some (0,n,n):=ya4 (fy _)
theorem yhl {d k:Nat}:natO d (some (.int .i64 (k:Int)))=some k:=by
  rfl
theorem ypk {n:Nat} {j:Int} (h:0<=j/\j<=(n:Int)):zb1 n n none (some (.int .i64 j)) none=some (0,j.toNat,n):=by
  obtain ⟨b,rfl⟩:∃ k:Nat,j=(k:Int):=⟨j.toNat,by omega⟩;rw [zor,yhl];show (bif Nat.ble 0 b && Nat.ble b n && Nat.ble n n && _ then some (0,b,n) else none)=_;rw [zhk (by omega),zhk (by omega),zhk (fy _)];rfl
theorem sub0 {n:Nat}:n - 0=n:=Nat.sub_zero n
inductive CK where
  |int (k:i5)
  |bool
  |str
def ckV:CK->Value->Bool
  |.int k,.int k' _=>decide (k=k')
  |.bool,.bool _=>true
  |.str,.string _=>true
  |_,_=>false
def zeu:List CK->List Value->Bool
  |[],[]=>true
  |c :: l,v :: m=>ckV c v && zeu l m
  |_,_=>false
def znw:Value->Value->Bool
  |.int _ a,.int _ b=>a == b
  |.bool a,.bool b=>a == b
  |.string a,.string b=>a == b
  |_,_=>false
def eqVs:List Value->List Value->Bool
  |v :: l,w :: m=>znw v w && eqVs l m
  |_,_=>true
theorem zqs:∀ {sh:List CK} {xs:List Value},zeu sh xs=true->xs.length=sh.length
  |[],[],_=>rfl
  |_ :: _,_ :: _,h=>by
    simp only [zeu,fp] at h;rw [gq,gq,zqs h.2]
  |[],_ :: _,h=>by simp [zeu] at h
  |_ :: _,[],h=>by simp [zeu] at h
theorem zom {c:CK}:∀ {xs:List Value},zeu [c] xs=true->∃ v,xs=[v]/\ckV c v=true
  |[],h=>by simp [zeu] at h
  |[v],h=>⟨v,rfl,by simpa [zeu] using h⟩
  |_ :: _ :: _,h=>by simp [zeu] at h
theorem zrq:∀ {a b:List CK} {xs:List Value},zeu (a++b) xs=true->zeu a (xs.take a.length)=true/\zeu b (xs.drop a.length)=true
  |[],b,xs,h=>⟨by simp [zeu],by simpa using h⟩
  |c :: a,b,[],h=>by simp [zeu] at h
  |c :: a,b,v :: xs,h=>by
    simp only [ib,zeu,fp] at h;obtain ⟨h1,h2⟩:=zrq h.2;exact ⟨by simp only [gq,List.take_succ_cons,zeu,h.1,h1,gl],by simpa using h2⟩
theorem zme:∀ {a b c d:List Value},a.length=c.length->eqVs (a++b) (c++d)=(eqVs a c && eqVs b d)
  |[],b,[],d,_=>rfl
  |x :: a,b,y :: c,d,h=>by
    simp only [ib,eqVs,zme (Nat.succ.inj h),Bool.and_assoc]
  |[],_,_ :: _,_,h=>by simp at h
  |_ :: _,_,[],_,h=>by simp at h
def valA (a:Bool) (xs:List Value):Value:=if a then .agg xs.toArray else xs.headD undef
noncomputable def zo7 (P:gz) (g:gw->Option (Bool×List CK)):List Field->Nat->Option (List CK)
  |[],_=>some []
  |f :: l,off=>match g f.type,(P.info? f.type).map (fun i=>i.size) with
    | some (_, sh), some sz => if f.name ≠ "_" /\ f.offset = off /\ sz = sh.length then
        (match zo7 P g l (off+sh.length) with|some r=>some (sh++r)|none=>none) else none
    |_,_=>none
noncomputable def zg7 (P:gz):Nat->gw->Option (Bool×List CK)
  |0,_=>none
  |d+1,t=>match P.underlying t with
    |some (.int k)=>some (false,[.int k])
    |some .bool=>some (false,[.bool])
    |some .string=>some (false,[.str])
    |some (.struct fs)=>if P.stoodInHeld t=true then none else (match zo7 P (zg7 P d) fs.toList 0 with|some l=>some (true,l)|none=>none)
    |some (.array n e)=>(match zg7 P d e,(P.info? e).map (fun i=>i.size) with
      |some (_,sh),some sz=>if sz=sh.length then some (true,(gi n sh).flatten) else none
      |_,_=>none)
    |_=>none
section
variable {P:gz}
theorem z0j {α σ:Type} (s0 s1:σ) (f:α->σ->Sem (ForInStep σ)) (b:α->Bool):∀ (l:List α),(∀ x,x∈l->za9 P (f x s0)=some (if b x then .yield s0 else .done s1))->za9 P (forIn l s0 f:Sem σ)=some (if l.all b then s0 else s1)
  |[],_=>by simp;rfl
  |x :: l,h=>by
    rw [List.forIn_cons,zal,h x (.head _)]
    cases hb:b x with
    |true =>
      show za9 P (forIn l s0 f)=_;rw [z0j s0 s1 f b l fun y hy=>h y (.tail _ hy),ju,hb,ki]
    |false =>
      rw [ju,hb,Bool.false_and];rfl
theorem yh9 {d:Nat} {t:gw} {a:Bool} {sh:List CK} (h:zg7 P d t=some (a,sh)):za9 P (isAgg t)=some a:=by
  cases d with
  |zero=>simp [zg7] at h
  |succ d =>
    unfold zg7 at h;unfold isAgg;rw [zal]
    cases hu:P.underlying t with
    |none=>rw [hu] at h;simp at h
    |some u =>
      rw [hu] at h;rw [zch hu]
      cases u with
      |int k=>simp at h;rw [<- h.1];rfl
      |bool=>simp at h;rw [<- h.1];rfl
      |string=>simp at h;rw [<- h.1];rfl
      |struct fs =>
        simp only at h;split at h
        . simp at h
        . split at h
          . simp at h;rw [<- h.1];rfl
          . simp at h
      |array n e =>
        simp only at h;split at h
        . split at h
          . simp at h;rw [<- h.1];rfl
          . simp at h
        . simp at h
      |_=>simp at h
theorem ych {d:Nat} {t:gw} {sh:List CK} (h:zg7 P d t=some (false,sh)):∃ c,sh=[c]:=by
  cases d with
  |zero=>simp [zg7] at h
  |succ d =>
    unfold zg7 at h;split at h
    . simp at h;exact ⟨_,h.symm⟩
    . simp at h;exact ⟨_,h.symm⟩
    . simp at h;exact ⟨_,h.symm⟩
    . split at h
      . simp at h
      . split at h<;>simp at h
    . split at h
      . split at h<;>simp at h
      . simp at h
    . simp at h
theorem z3c {t:gw} {sz:Nat} (h:(P.info? t).map (fun i=>i.size)=some sz):za9 P (sizeOf t)=some sz:=by
  cases hi:P.info? t with
  |none=>rw [hi] at h;simp at h
  |some i =>
    rw [hi] at h;unfold sizeOf typeInfo;rw [zal,zal];show ((za9 P (match P.info? t with|some i=>pure i|none=>_)).bind _)=_;rw [hi];simp at h;show za9 P (pure i.size)=_;rw [h];rfl
theorem ztg {d : Nat} {t : gw} {a : Bool} {sh : List CK} (h : zg7 P d t = some (a, sh)) (hs : (P.info? t).map (fun i => i.size) = some sh.length) (xs : List Value) (off : Nat) (hl : off + sh.length <= xs.length) :
    za9 P (part t xs.toArray off)=some (valA a ((xs.drop off).take sh.length)):=by
  unfold part;rw [zal,yh9 h]
  cases a with
  |true =>
    show za9 P (do let n <- sizeOf t;pure (Value.agg (xs.toArray.extract off (off+n))))=_;rw [zal,z3c hs];show some (Value.agg (xs.toArray.extract off (off+sh.length)))=_;rw [List.extract_toArray,List.extract_eq_take_drop,Nat.add_sub_cancel_left];rfl
  |false =>
    obtain ⟨c,rfl⟩:=ych h;simp only [gq,jl,jc] at hl ⊢;show za9 P (match xs.toArray[off]? with|some v=>pure v|none=>_)=_;rw [List.getElem?_toArray,fq (by omega),ks (by omega)];rfl
theorem zyk {g:gw->Option (Bool×List CK)}:∀ {l:List Field} {off:Nat} {sh:List CK} {xs ys:List Value},zo7 P g l off=some sh->xs.length=off+sh.length->ys.length=off+sh.length ->
    (l.all fun f=>match g f.type with|some (_,s)=>eqVs ((xs.drop f.offset).take s.length) ((ys.drop f.offset).take s.length)|none=>true)=eqVs (xs.drop off) (ys.drop off)
  |[],off,sh,xs,ys,h,hx,hy=>by
    simp only [zo7,fk] at h;subst h;rw [i7 (by simp at hx;omega),i7 (by simp at hy;omega)];rfl
  |f :: l,off,sh,xs,ys,h,hx,hy=>by
    unfold zo7 at h;split at h
    . rename_i a s sz hg hs;split at h
      . rename_i hc;split at h
        . rename_i r hr;cases h;rw [gb] at hx hy;rw [ju,zyk hr (by omega) (by omega),hg];simp only;rw [hc.2.1]
          have hr2:eqVs (xs.drop off) (ys.drop off)=(eqVs ((xs.drop off).take s.length) ((ys.drop off).take s.length) && eqVs (xs.drop (off+s.length)) (ys.drop (off+s.length))):=by
            conv=>lhs;rw [<- jf s.length (xs.drop off),<- jf s.length (ys.drop off)]
            rw [zme (by rw [iv,iv,jm,jm];omega),l6,l6]
          rw [hr2]
        . cases h
      . cases h
    . cases h
theorem zo6 {g : gw -> Option (Bool × List CK)} : ∀ {l : List Field} {off : Nat} {sh : List CK} {xs : List Value}, zo7 P g l off = some sh -> xs.length = off + sh.length -> zeu sh (xs.drop off) = true -> ∀ f, f ∈ l -> ∃ a s, g f.type = some (a, s) /\ (P.info? f.type).map (fun i => i.size) = some s.length /\ f.name ≠ "_" /\ f.offset + s.length <= xs.length /\ zeu s ((xs.drop f.offset).take s.length) = true
  |[],off,sh,xs,h,hx,hf,f,hm=>by cases hm
  |f' :: l,off,sh,xs,h,hx,hf,f,hm=>by
    unfold zo7 at h;split at h
    . rename_i a s sz hg hs;split at h
      . rename_i hc;split at h
        . rename_i r hr;cases h;rw [gb] at hx;obtain ⟨f1,f2⟩:=zrq hf;rw [l6] at f2
          cases hm with
          |head=>exact ⟨a,s,hg,by rw [hs,hc.2.2],hc.1,by rw [hc.2.1];omega,by rw [hc.2.1];exact f1⟩
          |tail _ hm=>exact zo6 hr (by omega) f2 f hm
        . cases h
      . cases h
    . cases h
theorem z8s {s:List CK}:∀ (n k:Nat) {xs ys:List Value},xs.length=(k+n)*s.length->ys.length=(k+n)*s.length ->
    ((pe k n).all fun i=>eqVs ((xs.drop (i*s.length)).take s.length) ((ys.drop (i*s.length)).take s.length))=eqVs (xs.drop (k*s.length)) (ys.drop (k*s.length))
  |0,k,xs,ys,hx,hy=>by
    rw [i7 (by rw [hx];exact fy _),i7 (by rw [hy];exact fy _)];rfl
  |n+1,k,xs,ys,hx,hy=>by
    have e:(k+(n+1))*s.length=k*s.length+s.length+n*s.length:=by rw [jt,jt,nh];omega
    rw [pl,ju,z8s n (k+1) (by rw [hx];congr 1;omega) (by rw [hy];congr 1;omega)];rw [jt,nh,<- l6,<- l6,<- zme (by rw [iv,iv,jm,jm];omega),jf,jf]
theorem z0f {s:List CK}:∀ {n:Nat} {xs:List Value},zeu (gi n s).flatten xs=true->∀ i,i<n->zeu s ((xs.drop (i*s.length)).take s.length)=true
  |0,xs,h,i,hi=>by omega
  |n+1,xs,h,i,hi=>by
    rw [ji,ir] at h;obtain ⟨h1,h2⟩:=zrq h
    cases i with
    |zero=>simpa using h1
    |succ i =>
      have:=z0f h2 i (by omega);rw [l6] at this;rw [jt,nh,Nat.add_comm];exact this
theorem yld:∀ (d:Nat) {t:gw} {a:Bool} {sh:List CK},zg7 P d t=some (a,sh)->∀ {xs ys:List Value},zeu sh xs=true->zeu sh ys=true->za9 P (lh d t (valA a xs) (valA a ys))=some (eqVs xs ys):=by
  intro d
  induction d with
  |zero=>intro t a sh h;simp [zg7] at h
  |succ d ih =>
    intro t a sh h xs ys hx hy;have hpu:∀ {α:Type} (v:α),za9 P (pure v:Sem α)=some v:=fun v=>rfl;unfold zg7 at h;unfold lh;rw [zal]
    cases hu:P.underlying t with
    |none=>rw [hu] at h;simp at h
    |some u =>
      rw [hu] at h;rw [zch hu]
      cases u with
      |int k =>
        simp at h;obtain ⟨rfl,rfl⟩:=h;obtain ⟨v,rfl,h1⟩:=zom hx;obtain ⟨w,rfl,h2⟩:=zom hy
        . cases v<;>simp [ckV] at h1;cases w<;>simp [ckV] at h2;subst h1 h2
          simp [valA,eqVs,znw,hpu]
      |bool =>
        simp at h;obtain ⟨rfl,rfl⟩:=h;obtain ⟨v,rfl,h1⟩:=zom hx;obtain ⟨w,rfl,h2⟩:=zom hy
        . cases v<;>simp [ckV] at h1;cases w<;>simp [ckV] at h2
          simp [valA,eqVs,znw,hpu]
      |string =>
        simp at h;obtain ⟨rfl,rfl⟩:=h;obtain ⟨v,rfl,h1⟩:=zom hx;obtain ⟨w,rfl,h2⟩:=zom hy
        . cases v<;>simp [ckV] at h1;cases w<;>simp [ckV] at h2
          simp [valA,eqVs,znw,hpu]
      |struct fs =>
        simp only at h;split at h
        . simp at h
        . rename_i hst;split at h
          . rename_i l hl;simp at h;obtain ⟨rfl,rfl⟩:=h;have lx:=zqs hx;have ly:=zqs hy;have hall:=zyk hl (by rw [lx];omega) (by rw [ly];omega);rw [gu,gu] at hall;simp only [valA,if_true,fj];rw [zal];show (((some P:Option gz)).bind _)=_;simp only [fj,zAd hst];rw [zal];show ((za9 P (forIn fs _ _)).bind _)=_;rw [<- Array.forIn_toList];rw [z0j (P:=P) (none,()) (some false,()) _ (fun f=>match zg7 P d f.type with|some (_,s)=>eqVs ((xs.drop f.offset).take s.length) ((ys.drop f.offset).take s.length)|none=>true) fs.toList ?_]
            . rw [hall];cases eqVs xs ys<;>rfl
            . intro f hf;obtain ⟨a,s,g1,g2,g3,g4,g5⟩:=zo6 hl (by rw [lx];omega) (by rw [gu];exact hx) f hf;obtain ⟨a',s',g1',_,_,g4',g5'⟩:=zo6 hl (by rw [ly];omega) (by rw [gu];exact hy) f hf;rw [g1] at g1';cases g1';rw [zAc g3,zal,ztg g1 g2 _ _ g4];simp only [fj];rw [zal,ztg g1 g2 _ _ g4'];simp only [fj];rw [zal,ih g1 g5 g5',g1];simp only [fj];have hq:∀ q:Bool,za9 P (if (!q)=true then pure (ForInStep.done (some false,())) else pure (ForInStep.yield (none,())):Sem (ForInStep (Option Bool×Unit)))=some (if q=true then .yield (none,()) else .done (some false,())):=by intro q;cases q<;>rfl
              exact hq _
          . simp at h
      |array n e =>
        simp only at h;split at h
        . rename_i ae se sz hse hsz;split at h
          . rename_i hc;subst hc;simp at h;obtain ⟨rfl,rfl⟩:=h;have lx:=zqs hx;have ly:=zqs hy;have hlen:(gi n se).flatten.length=n*se.length:=by simp
            rw [hlen] at lx ly;simp only [valA,if_true,fj];rw [zal,z3c hsz];simp only [fj,z25];rw [zal,z0j (P:=P) (none,()) (some false,()) _ (fun i=>eqVs ((xs.drop (i*se.length)).take se.length) ((ys.drop (i*se.length)).take se.length)) (pe 0 n) ?_]
            . rw [z8s n 0 (by rw [lx];congr 1;omega) (by rw [ly];congr 1;omega),Nat.zero_mul,gu,gu];cases eqVs xs ys<;>rfl
            . intro i hi;have hin:i<n:=by have:=List.mem_range'_1.1 hi;omega
              have hle:i*se.length+se.length<=n*se.length:=by
                have:=Nat.mul_le_mul_right se.length (show i+1<=n by omega);rw [jt,nh] at this;exact this
              rw [zal,ztg hse hsz _ _ (by omega)];simp only [fj];rw [zal,ztg hse hsz _ _ (by omega)];simp only [fj];rw [zal,ih hse (z0f hx i hin) (z0f hy i hin)];simp only [fj];have hq:∀ q:Bool,za9 P (if (!q)=true then pure (ForInStep.done (some false,())) else pure (ForInStep.yield (none,())):Sem (ForInStep (Option Bool×Unit)))=some (if q=true then .yield (none,()) else .done (some false,())):=by intro q;cases q<;>rfl
              exact hq _
          . simp at h
        . simp at h
      |_=>simp at h
variable {Γ:Env} {S:TS} {t:gw} {x y:gh}
theorem zrd {sh:List CK} {l m:List T} {vs ws:List Value} (ht:zg7 P 10000 t=some (true,sh)) (hq:P.eqGuardType P.depth t=false) (hl:zgp l=some vs) (hm:zgp m=some ws) (hx:zeu sh vs=true) (hy:zeu sh ws=true) {b:Bool} (hb:eqVs vs ws=b) :
    tBin P Γ S t .eql x y (.agg l) (.agg m)=some (.bool b)/\tBin P Γ S t .neq x y (.agg l) (.agg m)=some (.bool (!b)):=by
  have h:za9 P (rf t (.agg vs.toArray) (.agg ws.toArray))=some b:=by rw [<- hb];exact yld 10000 ht hx hy
  have hg:∀ op,op=.eql\/op=.neq->za9 P (eqGuard op t x y (.agg vs.toArray) (.agg ws.toArray))=some ():=by
    intro op hop;rcases hop with rfl|rfl
    . show za9 P (if !(P.eqGuardType P.depth t) then pure () else _)=some ();rw [hq];rfl
    . show za9 P (if !(P.eqGuardType P.depth t) then pure () else _)=some ();rw [hq];rfl
  have he:za9 P (binOp .eql t (.agg vs.toArray) (.agg ws.toArray))=some (.bool b):=by
    show za9 P (do pure (sn (<- rf t (.agg vs.toArray) (.agg ws.toArray))):Sem Value)=_;rw [zal,h];rfl
  have hn:za9 P (binOp .neq t (.agg vs.toArray) (.agg ws.toArray))=some (.bool (!b)):=by
    show za9 P (do pure (sn (!(<- rf t (.agg vs.toArray) (.agg ws.toArray)))):Sem Value)=_;rw [zal,h];rfl
  constructor
  . show zo2 P t .eql x y _ _=_;unfold zo2;rw [hl,hm];simp only;rw [zal,hg _ (.inl rfl)];show (match za9 P (binOp .eql t (.agg vs.toArray) (.agg ws.toArray)) with|some (.bool r)=>some (T.bool r)|_=>none)=_;rw [he]
  . show zo2 P t .neq x y _ _=_;unfold zo2;rw [hl,hm];simp only;rw [zal,hg _ (.inr rfl)];show (match za9 P (binOp .neq t (.agg vs.toArray) (.agg ws.toArray)) with|some (.bool r)=>some (T.bool r)|_=>none)=_;rw [hn]
theorem zl3:∀ {a b:List T} {x y:List Value},zgp a=some x->zgp b=some y->zgp (a++b)=some (x++y)
  |[],b,x,y,h,h2=>by simp only [zgp,fk] at h;subst h;exact h2
  |t :: a,b,x,y,h,h2=>by
    unfold zgp at h;split at h
    . rename_i v r e1 e2;cases h;rw [ib];unfold zgp;rw [e1,zl3 e2 h2];rfl
    . cases h
theorem z3d {k:i5}:∀ {a b:List Int},a.length=b.length->eqVs (a.map (jo k)) (b.map (jo k))=decide (a=b)
  |[],[],_=>rfl
  |x :: a,y :: b,h=>by
    rw [jb,jb,eqVs,z3d (Nat.succ.inj h)];simp only [znw,o7,Bool.decide_and]
    congr 1
  |[],_ :: _,h=>by simp at h
  |_ :: _,[],h=>by simp at h
theorem z0k {k:i5} {n:Nat} (a b:Ar n):eqVs (a.l.map (jo k)) (b.l.map (jo k))=decide (a=b):=by
  rw [z3d (by rw [a.h,b.h])];exact decide_eq_decide.2 (Ar.eq_iff.symm)
theorem z29 {k:i5}:∀ {l:List Int} {r:List CK} {vs:List Value},zeu r vs=true->zeu (gi l.length (.int k)++r) (l.map (jo k)++vs)=true
  |[],r,vs,h=>h
  |x :: l,r,vs,h=>by
    rw [gq,ji,jb,ib,ib,zeu,z29 h];simp [ckV]
end
section
variable {k:i5} {n m:Nat} (a b:Ar n) (r xs:List T)
theorem sgT (h:n<=m):(a.l.map (fm k)++r).take m=a.l.map (fm k)++r.take (m - n):=by
  rw [pj,iu (by rw [f5,a.h];exact h),f5,a.h]
theorem sgT1 (h:n<=m):(a.l.map (fm k)).take m=a.l.map (fm k):=iu (by rw [f5,a.h];exact h)
theorem sgD (h:n<=m):(a.l.map (fm k)++r).drop m=r.drop (m - n):=by
  rw [mu,i7 (by rw [f5,a.h];exact h),gn,f5,a.h]
theorem sgD1 (h:n<=m):(a.l.map (fm k)).drop m=[]:=i7 (by rw [f5,a.h];exact h)
theorem sgG (h:n<=m):(a.l.map (fm k)++r)[m]?=r[m - n]?:=by
  rw [iy (by rw [f5,a.h];exact h),f5,a.h]
theorem splA:spl (a.l.map (fm k)++r) 0 (b.l.map (fm k)++xs)=b.l.map (fm k)++spl r 0 xs:=by
  unfold spl;rw [ng,ng,gn,gn,gt,jc,jc,gb,f5,b.h,<- l6];congr 3;rw [mu,i7 (by rw [f5,a.h];exact fy _),f5,a.h,Nat.sub_self];rfl
theorem yoe:spl (a.l.map (fm k)++r) 0 (b.l.map (fm k))=b.l.map (fm k)++r:=by
  have:=splA (k:=k) a b r [];rw [ic] at this;rw [this,ymd]
theorem yod:spl (a.l.map (fm k)) 0 (b.l.map (fm k))=b.l.map (fm k):=arSpl a b
theorem splS (h:n<=m):spl (a.l.map (fm k)++r) m xs=a.l.map (fm k)++spl r (m - n) xs:=by
  unfold spl;rw [sgT a r h,mu,i7 (by rw [f5,a.h];omega),f5,a.h,gn];simp only [gt];congr 4;omega
theorem z4p (v:T) (h:n<=m):(a.l.map (fm k)++r).set m v=a.l.map (fm k)++r.set (m - n) v:=by
  rw [List.set_append,zAd (by rw [f5,a.h];omega),f5,a.h]
end
theorem zo1 {k:i5} {n off:Nat} {L r:List T} (a:Ar n) {i:Int} (h:0<=i/\i<(n:Int)) (hL:L.drop off=a.l.map (fm k)++r:=by first|rfl | (simp (disch:=decide) only [gt,ic,gb,ib,gn,f5,gq,jl,Ar.len,sgD,sgD1,ld,gu,i9,gc,jc];done)):L[off+i.toNat]?=some (fm k (gx a.l i)):=by
  rw [<- lm,hL,gr (by rw [f5,a.h];omega),ls,arIx a h];rfl
theorem zrv {k:i5} {n:Nat} {L r:List T} (a:Ar n) {i:Int} (h:0<=i/\i<(n:Int)) (hL:L=a.l.map (fm k)++r:=by first|rfl | (simp (disch:=decide) only [gt,ic,gb,ib,gn,f5,gq,jl,Ar.len,sgD,sgD1,ld,gu,i9,gc,jc];done)):L[i.toNat]?=some (fm k (gx a.l i)):=by
  have:=zo1 (off:=0) (L:=L) a h (by rw [gu];exact hL)
  rwa [jc] at this
theorem setAt {k:i5} {n off:Nat} {L L2 p r:List T} (a:Ar n) {i:Int} (v:Int) (h:0<=i/\i<(n:Int)) (hL:L=p++(a.l.map (fm k)++r):=by first|rfl | (simp (disch:=decide) only [gt,ic,gb,ib,gn,f5,gq,jl,Ar.len,sgD,sgD1,ld,gu,i9,gc,jc];done)) (hp:p.length=off:=by first|rfl | (simp (disch:=decide) only [gt,ic,gb,ib,gn,f5,gq,jl,Ar.len,sgD,sgD1,ld,gu,i9,gc,jc];done)) (h2:L2=p++((a.set i v).l.map (fm k)++r):=by first|rfl | (simp (disch:=decide) only [gt,ic,gb,ib,gn,f5,gq,jl,Ar.len,sgD,sgD1,ld,gu,i9,gc,jc];done)):spl L (off+i.toNat) [fm k v]=L2:=by
  subst hL h2;have hs:=ypo (k:=k) a v h;unfold spl at hs ⊢;have hi:i.toNat+1<=n:=by omega
  rw [<- hs];simp only [gq,jl,jc];rw [pj,iu (show p.length<=off+i.toNat by omega),show off+i.toNat - p.length=i.toNat by omega,kg (by rw [f5,a.h];omega)];rw [mu,i7 (show p.length<=off+i.toNat+1 by omega),show off+i.toNat+1 - p.length=i.toNat+1 by omega,gn,qs (by rw [f5,a.h];omega)];simp only [gt]
theorem yck {k:i5} {n:Nat} {L L2 r:List T} (a:Ar n) {i:Int} (v:Int) (h:0<=i/\i<(n:Int)) (hL:L=a.l.map (fm k)++r:=by first|rfl | (simp (disch:=decide) only [gt,ic,gb,ib,gn,f5,gq,jl,Ar.len,sgD,sgD1,ld,gu,i9,gc,jc];done)) (h2:L2=(a.set i v).l.map (fm k)++r:=by first|rfl | (simp (disch:=decide) only [gt,ic,gb,ib,gn,f5,gq,jl,Ar.len,sgD,sgD1,ld,gu,i9,gc,jc];done)):spl L i.toNat [fm k v]=L2:=by
  have:=setAt (off:=0) (p:=[]) (L:=L) (L2:=L2) a v h hL rfl h2
  rwa [jc] at this
/-! bits of integers -/
def iAnd (k:i5) (a b:Int):Int:=k.wrap (je k.bits a &&& je k.bits b).toNat
def iOr (k:i5) (a b:Int):Int:=k.wrap (je k.bits a ||| je k.bits b).toNat
def iXor (k:i5) (a b:Int):Int:=k.wrap (je k.bits a ^^^ je k.bits b).toNat
def zhz (k:i5) (a b:Int):Int:=k.wrap (je k.bits a &&& ~~~ je k.bits b).toNat
def iShl (k:i5) (a b:Int):Int:=k.wrap (a*2 ^ (min b.toNat k.bits))
def iShr (k:i5) (a b:Int):Int:=a.fdiv (2 ^ (min b.toNat k.bits))
theorem yj0 {k:i5} {a b:Int}:zbq .and k k a b=some (.int k (iAnd k a b)):=yo9
theorem yo4 {k:i5} {a b:Int}:zbq .or k k a b=some (.int k (iOr k a b)):=ib_or
theorem yjz {k:i5} {a b:Int}:zbq .xor k k a b=some (.int k (iXor k a b)):=yo6
theorem yen {k:i5} {a b:Int}:zbq .andNot k k a b=some (.int k (zhz k a b)):=by simp [zbq,zhz]
theorem yo3 {k k':i5} {a b:Int} (h:0<=b):zbq .shl k k' a b=some (.int k (iShl k a b)):=yo8 h
theorem zx1 {k k':i5} {a b:Int} (h:0<=b):zbq .shr k k' a b=some (.int k (iShr k a b)):=yo7 h
theorem zl2 {t:T} {l:List T} {v:Value} {r:List Value} (h:ygy t=some v) (k:zgp l=some r):zgp (t :: l)=some (v :: r):=by
  unfold zgp;rw [h,k]
theorem zqt {c:CK} {v:Value} {r:List CK} {vs:List Value} (h:ckV c v=true) (k:zeu r vs=true):zeu (c :: r) (v :: vs)=true:=by
  rw [zeu,h,k];rfl
theorem z88 (k:i5) (n:Int):ckV (.int k) (.int k n)=true:=by simp [ckV]
theorem z5s {k:i5} {n:Nat} (a:Ar n) {r:List CK} {vs:List Value} (h:zeu r vs=true):zeu (gi n (.int k)++r) (a.l.map (jo k)++vs)=true:=by
  have:=z29 (k:=k) (l:=a.l) h
  rwa [a.h] at this
theorem z8n {k:i5} {n:Nat} (a:Ar n):zeu (gi n (.int k)) (a.l.map (jo k))=true:=by
  have:=z5s (k:=k) a (r:=[]) (vs:=[]) rfl
  rwa [ic,ic] at this
theorem z5v {k:i5} {n:Nat} (a b:Ar n) (x y:List Value):eqVs (a.l.map (jo k)++x) (b.l.map (jo k)++y)=(decide (a=b) && eqVs x y):=by
  rw [zme (by rw [f5,f5,a.h,b.h]),z0k]
theorem yc3 {α:Type} {f:α->T} (z:α):∀ n:Nat,rep n (f z).cells=vecC f (gi n z)
  |0=>rfl
  |n+1=>by
    have:=yc3 (f:=f) z n;unfold rep vecC at this ⊢;rw [ji,ir,this,ji,jb,jh]
theorem yey {k:i5} {m:Nat} (l:List Int):(T.agg (l.map (fm k))).ids m=true:=zgq l
theorem zi5:∀ (a b:List T),rq (a++b)=(rq a && rq b)
  |[],b=>by simp [rq]
  |t :: a,b=>by rw [ib,rq,rq,zi5 a b,Bool.and_assoc]
theorem yf9 (l:List T):l++[]=l:=ic l
theorem z36 (a b c:List T):a++b++c=a++(b++c):=gt a b c
theorem zu0 (a b:List T):(a++b).length=a.length+b.length:=gb
theorem z0u (a b:List T) (p:T->Bool):(a++b).all p=(a.all p && b.all p):=List.all_append
theorem z03 (n:Nat):([]:List T).take n=[]:=List.take_nil
theorem z3h (n:Nat):([]:List T).drop n=[]:=List.drop_nil
noncomputable def LL:List Nat:=[3,4,5,6,7,8,9,10,11,12,13,14,15,16,17,18,19,20,21,22,23,24,25,26,27,28,29,30,31,32,33,34,35,36,37,38,39,40,41,42,43,44,45,46,47,48,49,50,51,52,53,54,55,56,57,58,59,60,61,62,63,64,65,66,67,68,69,70,71,72,73,74,75,76,77,78,79,80,81,82,83,84,85,86,87,88,89,90,91,92,93,94,95,96,97]
def GG:List Nat:=[]
noncomputable def EE (ax:Axs):Env:=zh0 Try.prog LL ax
theorem zfw (ax:Axs):zej Try.prog (EE ax):=yff _ _ _
theorem z8j:znu Try.prog GG LL=true:=by kernel_rfl
theorem yhp:Try.prog.follows .mixedOrders=true:=by kernel_rfl
noncomputable def aggO:Option (List T)->Option T
  |some l=>some (.agg l)
  |none=>none
theorem fn6 (ax:Axs):(EE ax).fn.at 6=some Try.f6:=by kernel_rfl
theorem fn8 (ax:Axs):(EE ax).fn.at 8=some Try.f8:=by kernel_rfl
theorem fn9 (ax:Axs):(EE ax).fn.at 9=some Try.f9:=by kernel_rfl
theorem fn10 (ax:Axs):(EE ax).fn.at 10=some Try.f10:=by kernel_rfl
theorem fn11 (ax:Axs):(EE ax).fn.at 11=some Try.f11:=by kernel_rfl
theorem fn12 (ax:Axs):(EE ax).fn.at 12=some Try.f12:=by kernel_rfl
theorem fn13 (ax:Axs):(EE ax).fn.at 13=some Try.f13:=by kernel_rfl
theorem fn14 (ax:Axs):(EE ax).fn.at 14=some Try.f14:=by kernel_rfl
theorem fn15 (ax:Axs):(EE ax).fn.at 15=some Try.f15:=by kernel_rfl
theorem fn16 (ax:Axs):(EE ax).fn.at 16=some Try.f16:=by kernel_rfl
theorem fn17 (ax:Axs):(EE ax).fn.at 17=some Try.f17:=by kernel_rfl
theorem fn18 (ax:Axs):(EE ax).fn.at 18=some Try.f18:=by kernel_rfl
theorem fn19 (ax:Axs):(EE ax).fn.at 19=some Try.f19:=by kernel_rfl
theorem fn20 (ax:Axs):(EE ax).fn.at 20=some Try.f20:=by kernel_rfl
theorem fn22 (ax:Axs):(EE ax).fn.at 22=some Try.f22:=by kernel_rfl
theorem fn23 (ax:Axs):(EE ax).fn.at 23=some Try.f23:=by kernel_rfl
theorem fn24 (ax:Axs):(EE ax).fn.at 24=some Try.f24:=by kernel_rfl
theorem fn25 (ax:Axs):(EE ax).fn.at 25=some Try.f25:=by kernel_rfl
theorem fn26 (ax:Axs):(EE ax).fn.at 26=some Try.f26:=by kernel_rfl
theorem fn27 (ax:Axs):(EE ax).fn.at 27=some Try.f27:=by kernel_rfl
theorem fn28 (ax:Axs):(EE ax).fn.at 28=some Try.f28:=by kernel_rfl
theorem fn29 (ax:Axs):(EE ax).fn.at 29=some Try.f29:=by kernel_rfl
theorem fn30 (ax:Axs):(EE ax).fn.at 30=some Try.f30:=by kernel_rfl
theorem fn31 (ax:Axs):(EE ax).fn.at 31=some Try.f31:=by kernel_rfl
theorem fn32 (ax:Axs):(EE ax).fn.at 32=some Try.f32:=by kernel_rfl
theorem fn33 (ax:Axs):(EE ax).fn.at 33=some Try.f33:=by kernel_rfl
theorem fn34 (ax:Axs):(EE ax).fn.at 34=some Try.f34:=by kernel_rfl
theorem fn35 (ax:Axs):(EE ax).fn.at 35=some Try.f35:=by kernel_rfl
theorem fn36 (ax:Axs):(EE ax).fn.at 36=some Try.f36:=by kernel_rfl
theorem fn37 (ax:Axs):(EE ax).fn.at 37=some Try.f37:=by kernel_rfl
theorem fn38 (ax:Axs):(EE ax).fn.at 38=some Try.f38:=by kernel_rfl
theorem fn39 (ax:Axs):(EE ax).fn.at 39=some Try.f39:=by kernel_rfl
theorem fn40 (ax:Axs):(EE ax).fn.at 40=some Try.f40:=by kernel_rfl
theorem fn41 (ax:Axs):(EE ax).fn.at 41=some Try.f41:=by kernel_rfl
theorem fn42 (ax:Axs):(EE ax).fn.at 42=some Try.f42:=by kernel_rfl
theorem fn43 (ax:Axs):(EE ax).fn.at 43=some Try.f43:=by kernel_rfl
theorem fn44 (ax:Axs):(EE ax).fn.at 44=some Try.f44:=by kernel_rfl
theorem fn45 (ax:Axs):(EE ax).fn.at 45=some Try.f45:=by kernel_rfl
theorem fn46 (ax:Axs):(EE ax).fn.at 46=some Try.f46:=by kernel_rfl
theorem fn47 (ax:Axs):(EE ax).fn.at 47=some Try.f47:=by kernel_rfl
theorem fn49 (ax:Axs):(EE ax).fn.at 49=some Try.f49:=by kernel_rfl
theorem fn50 (ax:Axs):(EE ax).fn.at 50=some Try.f50:=by kernel_rfl
theorem fn51 (ax:Axs):(EE ax).fn.at 51=some Try.f51:=by kernel_rfl
theorem fn52 (ax:Axs):(EE ax).fn.at 52=some Try.f52:=by kernel_rfl
theorem fn53 (ax:Axs):(EE ax).fn.at 53=some Try.f53:=by kernel_rfl
theorem fn54 (ax:Axs):(EE ax).fn.at 54=some Try.f54:=by kernel_rfl
theorem fn55 (ax:Axs):(EE ax).fn.at 55=some Try.f55:=by kernel_rfl
theorem fn56 (ax:Axs):(EE ax).fn.at 56=some Try.f56:=by kernel_rfl
theorem fn57 (ax:Axs):(EE ax).fn.at 57=some Try.f57:=by kernel_rfl
theorem fn58 (ax:Axs):(EE ax).fn.at 58=some Try.f58:=by kernel_rfl
theorem fn59 (ax:Axs):(EE ax).fn.at 59=some Try.f59:=by kernel_rfl
theorem fn60 (ax:Axs):(EE ax).fn.at 60=some Try.f60:=by kernel_rfl
theorem fn61 (ax:Axs):(EE ax).fn.at 61=some Try.f61:=by kernel_rfl
theorem fn62 (ax:Axs):(EE ax).fn.at 62=some Try.f62:=by kernel_rfl
theorem fn63 (ax:Axs):(EE ax).fn.at 63=some Try.f63:=by kernel_rfl
theorem fn64 (ax:Axs):(EE ax).fn.at 64=some Try.f64:=by kernel_rfl
theorem fn65 (ax:Axs):(EE ax).fn.at 65=some Try.f65:=by kernel_rfl
theorem fn67 (ax:Axs):(EE ax).fn.at 67=some Try.f67:=by kernel_rfl
theorem fn68 (ax:Axs):(EE ax).fn.at 68=some Try.f68:=by kernel_rfl
theorem fn69 (ax:Axs):(EE ax).fn.at 69=some Try.f69:=by kernel_rfl
theorem fn70 (ax:Axs):(EE ax).fn.at 70=some Try.f70:=by kernel_rfl
theorem fn72 (ax:Axs):(EE ax).fn.at 72=some Try.f72:=by kernel_rfl
theorem fn73 (ax:Axs):(EE ax).fn.at 73=some Try.f73:=by kernel_rfl
theorem fn74 (ax:Axs):(EE ax).fn.at 74=some Try.f74:=by kernel_rfl
theorem fn75 (ax:Axs):(EE ax).fn.at 75=some Try.f75:=by kernel_rfl
theorem fn76 (ax:Axs):(EE ax).fn.at 76=some Try.f76:=by kernel_rfl
theorem fn77 (ax:Axs):(EE ax).fn.at 77=some Try.f77:=by kernel_rfl
theorem fn78 (ax:Axs):(EE ax).fn.at 78=some Try.f78:=by kernel_rfl
theorem fn79 (ax:Axs):(EE ax).fn.at 79=some Try.f79:=by kernel_rfl
theorem fn80 (ax:Axs):(EE ax).fn.at 80=some Try.f80:=by kernel_rfl
theorem fn81 (ax:Axs):(EE ax).fn.at 81=some Try.f81:=by kernel_rfl
theorem fn82 (ax:Axs):(EE ax).fn.at 82=some Try.f82:=by kernel_rfl
theorem fn83 (ax:Axs):(EE ax).fn.at 83=some Try.f83:=by kernel_rfl
theorem fn84 (ax:Axs):(EE ax).fn.at 84=some Try.f84:=by kernel_rfl
theorem fn85 (ax:Axs):(EE ax).fn.at 85=some Try.f85:=by kernel_rfl
theorem fn86 (ax:Axs):(EE ax).fn.at 86=some Try.f86:=by kernel_rfl
theorem fn87 (ax:Axs):(EE ax).fn.at 87=some Try.f87:=by kernel_rfl
theorem fn88 (ax:Axs):(EE ax).fn.at 88=some Try.f88:=by kernel_rfl
theorem fn89 (ax:Axs):(EE ax).fn.at 89=some Try.f89:=by kernel_rfl
theorem fn90 (ax:Axs):(EE ax).fn.at 90=some Try.f90:=by kernel_rfl
theorem fn91 (ax:Axs):(EE ax).fn.at 91=some Try.f91:=by kernel_rfl
theorem fn92 (ax:Axs):(EE ax).fn.at 92=some Try.f92:=by kernel_rfl
theorem fn95 (ax:Axs):(EE ax).fn.at 95=some Try.f95:=by kernel_rfl
theorem fn96 (ax:Axs):(EE ax).fn.at 96=some Try.f96:=by kernel_rfl
theorem ti3 (ax:Axs):(EE ax).ti.at 3=some ⟨.int .i64,1,8,[.int .i64 0]⟩:=by kernel_rfl
theorem ti4 (ax:Axs):(EE ax).ti.at 4=some ⟨.bool,1,1,[.bool false]⟩:=by kernel_rfl
theorem ti5 (ax:Axs):(EE ax).ti.at 5=some ⟨.int .u8,1,1,[.int .u8 0]⟩:=by kernel_rfl
theorem ti9 (ax:Axs):(EE ax).ti.at 9=some ⟨.string,1,16,[.string ⟨#[]⟩]⟩:=by kernel_rfl
theorem ti22 (ax:Axs):(EE ax).ti.at 22=some ⟨.slice 93,1,24,[.slice none 0 0]⟩:=by kernel_rfl
theorem ti23 (ax:Axs):(EE ax).ti.at 23=some ⟨.slice 95,1,24,[.slice none 0 0]⟩:=by kernel_rfl
theorem ti24 (ax:Axs):(EE ax).ti.at 24=some ⟨.slice 98,1,24,[.slice none 0 0]⟩:=by kernel_rfl
theorem ylc (ax:Axs) (S:TS) (b off N:Nat):zao (EE ax) S 26 0 (.ptr b off N)=bif S.has b N then some (.ptr b (off+0) N) else none:=by kernel_rfl
theorem ylb (ax:Axs) (S:TS) (b off N:Nat):zao (EE ax) S 26 1 (.ptr b off N)=bif S.has b N then some (.ptr b (off+1) N) else none:=by kernel_rfl
theorem yla (ax:Axs) (S:TS) (b off N:Nat):zao (EE ax) S 26 2 (.ptr b off N)=bif S.has b N then some (.ptr b (off+2) N) else none:=by kernel_rfl
noncomputable def fs26:Array Field:=match Try.prog.underlying 26 with|some (.struct fs)=>fs|_=>#[]
theorem ti26 (ax:Axs):(EE ax).ti.at 26=some ⟨.struct fs26,3,72,[.slice none 0 0,.slice none 0 0,.slice none 0 0]⟩:=by kernel_rfl
theorem ti28 (ax:Axs):(EE ax).ti.at 28=some ⟨.slice 59,1,24,[.slice none 0 0]⟩:=by kernel_rfl
theorem sr28 (ax:Axs):srcT (EE ax) 28=true:=by kernel_rfl
theorem yk9 (ax:Axs) (S:TS) (b off N:Nat):zao (EE ax) S 30 0 (.ptr b off N)=bif S.has b N then some (.ptr b (off+0) N) else none:=by kernel_rfl
theorem ykr (ax:Axs) (S:TS) (l:List T):zao (EE ax) S 30 0 (.cp l)=some (.cp (l.drop 0)):=by kernel_rfl
theorem yk8 (ax:Axs) (S:TS) (b off N:Nat):zao (EE ax) S 30 1 (.ptr b off N)=bif S.has b N then some (.ptr b (off+1) N) else none:=by kernel_rfl
theorem zqw (ax:Axs) (S:TS) (l:List T):zao (EE ax) S 30 1 (.cp l)=some (.cp (l.drop 1)):=by kernel_rfl
theorem yk7 (ax:Axs) (S:TS) (b off N:Nat):zao (EE ax) S 30 2 (.ptr b off N)=bif S.has b N then some (.ptr b (off+2) N) else none:=by kernel_rfl
theorem zvi (ax:Axs) (S:TS) (l:List T):zao (EE ax) S 30 2 (.cp l)=some (.cp (l.drop 2)):=by kernel_rfl
noncomputable def fs30:Array Field:=match Try.prog.underlying 30 with|some (.struct fs)=>fs|_=>#[]
theorem bt30 (ax:Axs) (ρ:gh->T) (parts:List (Nat×gh)):zke (EE ax) ρ 30 parts=aggO (zb3 [.int .i64 0,.int .i64 0,.int .i64 0] (zbj (zf0 (EE ax) fs30) ρ parts)):=by kernel_rfl
theorem ti30 (ax:Axs):(EE ax).ti.at 30=some ⟨.struct fs30,3,24,[.int .i64 0,.int .i64 0,.int .i64 0]⟩:=by kernel_rfl
theorem yjs (ax:Axs):zf0 (EE ax) fs30 0=some (0,1):=by kernel_rfl
theorem yjr (ax:Axs):zf0 (EE ax) fs30 1=some (1,1):=by kernel_rfl
theorem yjq (ax:Axs):zf0 (EE ax) fs30 2=some (2,1):=by kernel_rfl
theorem ti40 (ax:Axs):(EE ax).ti.at 40=some ⟨.slice 30,1,24,[.slice none 0 0]⟩:=by kernel_rfl
theorem sr40 (ax:Axs):srcT (EE ax) 40=true:=by kernel_rfl
theorem tz43 (ax:Axs):(EE ax).ti.at 43=some ⟨.array 10 3,10,80,zVs 10 .i64⟩:=by kernel_rfl
theorem aq43 (ax:Axs) (a b:Ar 10):(∀ (S:TS) (x y:gh),tBin Try.prog (EE ax) S 43 .eql x y (.agg (a.l.map (fm .i64))) (.agg (b.l.map (fm .i64)))=some (.bool (decide (a=b))))/\(∀ (S:TS) (x y:gh),tBin Try.prog (EE ax) S 43 .neq x y (.agg (a.l.map (fm .i64))) (.agg (b.l.map (fm .i64)))=some (.bool (!(decide (a=b))))):=⟨fun _ _ _=>(yb0 (e:=3) (by kernel_rfl) (by kernel_rfl) (by kernel_rfl) (by kernel_rfl) a b).1,fun _ _ _=>(yb0 (e:=3) (by kernel_rfl) (by kernel_rfl) (by kernel_rfl) (by kernel_rfl) a b).2⟩
theorem bz43 (ax:Axs):∀ (ρ:gh->T),zke (EE ax) ρ 43 []=some (.agg ((zA 10).l.map (fm .i64))):=fun _=>rfl
theorem ti48 (ax:Axs):(EE ax).ti.at 48=some ⟨.slice 3,1,24,[.slice none 0 0]⟩:=by kernel_rfl
theorem sr48 (ax:Axs):srcT (EE ax) 48=true:=by kernel_rfl
def zS56:List Value:=[.int .i64 0,.int .i64 0,.int .i64 0,.int .i64 0,.int .i64 0,.int .i64 0,.int .i64 0,.int .i64 0,.int .i64 0,.int .i64 0,.int .i64 0,.int .i64 0,.int .i64 0,.int .i64 0,.int .i64 0,.int .i64 0,.int .i64 0,.int .i64 0,.int .i64 0,.int .i64 0]
theorem yiy:zgn zS56=some ((zA 10).l.map (fm .i64)++((zA 10).l.map (fm .i64))):=rfl
theorem z6f:zS56.length=20:=rfl
theorem yk6 (ax:Axs) (S:TS) (b off N:Nat):zao (EE ax) S 56 0 (.ptr b off N)=bif S.has b N then some (.ptr b (off+0) N) else none:=by kernel_rfl
theorem ykq (ax:Axs) (S:TS) (l:List T):zao (EE ax) S 56 0 (.cp l)=some (.cp (l.drop 0)):=by kernel_rfl
theorem yk5 (ax:Axs) (S:TS) (b off N:Nat):zao (EE ax) S 56 1 (.ptr b off N)=bif S.has b N then some (.ptr b (off+10) N) else none:=by kernel_rfl
theorem ykp (ax:Axs) (S:TS) (l:List T):zao (EE ax) S 56 1 (.cp l)=some (.cp (l.drop 10)):=by kernel_rfl
noncomputable def fs56:Array Field:=match Try.prog.underlying 56 with|some (.struct fs)=>fs|_=>#[]
theorem bt56 (ax:Axs) (ρ:gh->T) (parts:List (Nat×gh)):zke (EE ax) ρ 56 parts=aggO (zb3 zS56 (zbj (zf0 (EE ax) fs56) ρ parts)):=by kernel_rfl
theorem ti56 (ax:Axs):(EE ax).ti.at 56=some ⟨.struct fs56,20,160,zS56⟩:=by kernel_rfl
theorem yjp (ax:Axs):zf0 (EE ax) fs56 0=some (0,10):=by kernel_rfl
theorem yjo (ax:Axs):zf0 (EE ax) fs56 1=some (10,10):=by kernel_rfl
theorem ti57 (ax:Axs):(EE ax).ti.at 57=some ⟨.slice 87,1,24,[.slice none 0 0]⟩:=by kernel_rfl
def zS59:List Value:=[.int .i64 0,.int .i64 0,.int .i64 0,.int .i64 0,.int .i64 0,.int .i64 0,.int .i64 0,.int .i64 0,.int .i64 0,.int .i64 0,.int .i64 0,.int .i64 0,.int .i64 0,.int .i64 0,.int .i64 0,.int .i64 0,.int .i64 0,.int .i64 0,.int .i64 0,.int .i64 0,.int .i64 0,.int .i64 0,.slice none 0 0]
theorem ybe:zgn zS59=some (fm .i64 0 :: ((zA 10).l.map (fm .i64)++((zA 10).l.map (fm .i64)++[fm .i64 0,T.nils]))):=rfl
theorem zy4:zS59.length=23:=rfl
theorem yk4 (ax:Axs) (S:TS) (b off N:Nat):zao (EE ax) S 59 0 (.ptr b off N)=bif S.has b N then some (.ptr b (off+0) N) else none:=by kernel_rfl
theorem yko (ax:Axs) (S:TS) (l:List T):zao (EE ax) S 59 0 (.cp l)=some (.cp (l.drop 0)):=by kernel_rfl
theorem yk3 (ax:Axs) (S:TS) (b off N:Nat):zao (EE ax) S 59 1 (.ptr b off N)=bif S.has b N then some (.ptr b (off+1) N) else none:=by kernel_rfl
theorem ykn (ax:Axs) (S:TS) (l:List T):zao (EE ax) S 59 1 (.cp l)=some (.cp (l.drop 1)):=by kernel_rfl
theorem yk2 (ax:Axs) (S:TS) (b off N:Nat):zao (EE ax) S 59 2 (.ptr b off N)=bif S.has b N then some (.ptr b (off+21) N) else none:=by kernel_rfl
theorem yk1 (ax:Axs) (S:TS) (b off N:Nat):zao (EE ax) S 59 3 (.ptr b off N)=bif S.has b N then some (.ptr b (off+22) N) else none:=by kernel_rfl
theorem ykm (ax:Axs) (S:TS) (l:List T):zao (EE ax) S 59 3 (.cp l)=some (.cp (l.drop 22)):=by kernel_rfl
noncomputable def fs59:Array Field:=match Try.prog.underlying 59 with|some (.struct fs)=>fs|_=>#[]
theorem bt59 (ax:Axs) (ρ:gh->T) (parts:List (Nat×gh)):zke (EE ax) ρ 59 parts=aggO (zb3 zS59 (zbj (zf0 (EE ax) fs59) ρ parts)):=by kernel_rfl
theorem ti59 (ax:Axs):(EE ax).ti.at 59=some ⟨.struct fs59,23,200,zS59⟩:=by kernel_rfl
theorem yop (ax:Axs):zf0 (EE ax) fs59 0=some (0,1):=by kernel_rfl
theorem yoo (ax:Axs):zf0 (EE ax) fs59 1=some (1,20):=by kernel_rfl
theorem yjn (ax:Axs):zf0 (EE ax) fs59 2=some (21,1):=by kernel_rfl
theorem ti63 (ax:Axs):(EE ax).ti.at 63=some ⟨.slice 48,1,24,[.slice none 0 0]⟩:=by kernel_rfl
noncomputable def fd74:TypeDesc:=match Try.prog.underlying 74 with|some d=>d|none=>.bool
theorem ti74 (ax:Axs):(EE ax).ti.at 74=some ⟨fd74,1,8,[.nilFunc]⟩:=by kernel_rfl
theorem ag74:aggT fd74=false:=by kernel_rfl
theorem ti75 (ax:Axs):(EE ax).ti.at 75=some ⟨.slice 56,1,24,[.slice none 0 0]⟩:=by kernel_rfl
theorem sr75 (ax:Axs):srcT (EE ax) 75=true:=by kernel_rfl
def zS84:List Value:=[.int .i64 0,.int .i64 0,.int .i64 0,.int .i64 0,.int .i64 0,.int .i64 0,.int .i64 0,.int .i64 0,.int .i64 0,.int .i64 0,.int .i64 0,.int .i64 0,.int .i64 0,.int .i64 0,.int .i64 0,.int .i64 0,.int .i64 0,.int .i64 0,.int .i64 0,.int .i64 0]
theorem yix:zgn zS84=some ((zA 10).l.map (fm .i64)++((zA 10).l.map (fm .i64))):=rfl
theorem z6e:zS84.length=20:=rfl
theorem yk0 (ax:Axs) (S:TS) (b off N:Nat):zao (EE ax) S 84 0 (.ptr b off N)=bif S.has b N then some (.ptr b (off+0) N) else none:=by kernel_rfl
theorem ykz (ax:Axs) (S:TS) (b off N:Nat):zao (EE ax) S 84 1 (.ptr b off N)=bif S.has b N then some (.ptr b (off+10) N) else none:=by kernel_rfl
noncomputable def fs84:Array Field:=match Try.prog.underlying 84 with|some (.struct fs)=>fs|_=>#[]
theorem bt84 (ax:Axs) (ρ:gh->T) (parts:List (Nat×gh)):zke (EE ax) ρ 84 parts=aggO (zb3 zS84 (zbj (zf0 (EE ax) fs84) ρ parts)):=by kernel_rfl
theorem ti84 (ax:Axs):(EE ax).ti.at 84=some ⟨.struct fs84,20,160,zS84⟩:=by kernel_rfl
theorem yjm (ax:Axs):zf0 (EE ax) fs84 0=some (0,10):=by kernel_rfl
theorem yjl (ax:Axs):zf0 (EE ax) fs84 1=some (10,10):=by kernel_rfl
def zS86:List Value:=[.int .i64 0,.int .i64 0,.int .i64 0,.int .i64 0,.int .i64 0,.int .i64 0,.int .i64 0,.int .i64 0,.int .i64 0,.int .i64 0,.int .i64 0,.int .i64 0,.int .i64 0,.int .i64 0,.int .i64 0,.int .i64 0,.int .i64 0,.int .i64 0,.int .i64 0,.int .i64 0,.int .i64 0]
theorem yiw:zgn zS86=some (fm .i64 0 :: ((zA 10).l.map (fm .i64)++((zA 10).l.map (fm .i64)))):=rfl
theorem z6d:zS86.length=21:=rfl
theorem yky (ax:Axs) (S:TS) (b off N:Nat):zao (EE ax) S 86 0 (.ptr b off N)=bif S.has b N then some (.ptr b (off+0) N) else none:=by kernel_rfl
theorem ykx (ax:Axs) (S:TS) (b off N:Nat):zao (EE ax) S 86 1 (.ptr b off N)=bif S.has b N then some (.ptr b (off+1) N) else none:=by kernel_rfl
noncomputable def fs86:Array Field:=match Try.prog.underlying 86 with|some (.struct fs)=>fs|_=>#[]
theorem bt86 (ax:Axs) (ρ:gh->T) (parts:List (Nat×gh)):zke (EE ax) ρ 86 parts=aggO (zb3 zS86 (zbj (zf0 (EE ax) fs86) ρ parts)):=by kernel_rfl
theorem ti86 (ax:Axs):(EE ax).ti.at 86=some ⟨.struct fs86,21,168,zS86⟩:=by kernel_rfl
theorem yon (ax:Axs):zf0 (EE ax) fs86 0=some (0,1):=by kernel_rfl
theorem yom (ax:Axs):zf0 (EE ax) fs86 1=some (1,20):=by kernel_rfl
theorem ti87 (ax:Axs):(EE ax).ti.at 87=some ⟨.slice 86,1,24,[.slice none 0 0]⟩:=by kernel_rfl
theorem ti88 (ax:Axs):(EE ax).ti.at 88=some ⟨.slice 9,1,24,[.slice none 0 0]⟩:=by kernel_rfl
theorem sr88 (ax:Axs):srcT (EE ax) 88=true:=by kernel_rfl
theorem ykl (ax:Axs) (S:TS) (l:List T):zao (EE ax) S 93 0 (.cp l)=some (.cp (l.drop 0)):=by kernel_rfl
theorem ykw (ax:Axs) (S:TS) (b off N:Nat):zao (EE ax) S 93 2 (.ptr b off N)=bif S.has b N then some (.ptr b (off+2) N) else none:=by kernel_rfl
theorem ykv (ax:Axs) (S:TS) (b off N:Nat):zao (EE ax) S 93 3 (.ptr b off N)=bif S.has b N then some (.ptr b (off+3) N) else none:=by kernel_rfl
noncomputable def fs93:Array Field:=match Try.prog.underlying 93 with|some (.struct fs)=>fs|_=>#[]
theorem ti93 (ax:Axs):(EE ax).ti.at 93=some ⟨.struct fs93,4,40,[.string ⟨#[]⟩,.bool false,.int .i64 0,.int .i64 0]⟩:=by kernel_rfl
theorem yku (ax:Axs) (S:TS) (b off N:Nat):zao (EE ax) S 95 0 (.ptr b off N)=bif S.has b N then some (.ptr b (off+0) N) else none:=by kernel_rfl
theorem ykt (ax:Axs) (S:TS) (b off N:Nat):zao (EE ax) S 95 1 (.ptr b off N)=bif S.has b N then some (.ptr b (off+1) N) else none:=by kernel_rfl
theorem yks (ax:Axs) (S:TS) (b off N:Nat):zao (EE ax) S 95 2 (.ptr b off N)=bif S.has b N then some (.ptr b (off+2) N) else none:=by kernel_rfl
noncomputable def fs95:Array Field:=match Try.prog.underlying 95 with|some (.struct fs)=>fs|_=>#[]
theorem ti95 (ax:Axs):(EE ax).ti.at 95=some ⟨.struct fs95,3,24,[.int .i64 0,.int .i64 0,.int .i64 0]⟩:=by kernel_rfl
theorem ykk (ax:Axs) (S:TS) (l:List T):zao (EE ax) S 98 0 (.cp l)=some (.cp (l.drop 0)):=by kernel_rfl
theorem ykj (ax:Axs) (S:TS) (l:List T):zao (EE ax) S 98 1 (.cp l)=some (.cp (l.drop 1)):=by kernel_rfl
noncomputable def fs98:Array Field:=match Try.prog.underlying 98 with|some (.struct fs)=>fs|_=>#[]
theorem ti98 (ax:Axs):(EE ax).ti.at 98=some ⟨.struct fs98,2,24,[.string ⟨#[]⟩,.int .i64 0]⟩:=by kernel_rfl
theorem yn5 (ax:Axs):(EE ax).ti.at 101=some ⟨.int .u64,1,8,[.int .u64 0]⟩:=by kernel_rfl
theorem yn4 (ax:Axs):(EE ax).ti.at 115=some ⟨.int .u64,1,8,[.int .u64 0]⟩:=by kernel_rfl
theorem yn3 (ax:Axs):(EE ax).ti.at 118=some ⟨.slice 59,1,24,[.slice none 0 0]⟩:=by kernel_rfl
theorem el28 (ax:Axs):zd0 (EE ax) 28=some ⟨.struct fs59,23,200,zS59⟩:=by kernel_rfl
theorem el40 (ax:Axs):zd0 (EE ax) 40=some ⟨.struct fs30,3,24,[.int .i64 0,.int .i64 0,.int .i64 0]⟩:=by kernel_rfl
theorem el48 (ax:Axs):zd0 (EE ax) 48=some ⟨.int .i64,1,8,[.int .i64 0]⟩:=by kernel_rfl
theorem el57 (ax:Axs):zd0 (EE ax) 57=some ⟨.slice 86,1,24,[.slice none 0 0]⟩:=by kernel_rfl
theorem el63 (ax:Axs):zd0 (EE ax) 63=some ⟨.slice 3,1,24,[.slice none 0 0]⟩:=by kernel_rfl
theorem el75 (ax:Axs):zd0 (EE ax) 75=some ⟨.struct fs56,20,160,zS56⟩:=by kernel_rfl
theorem el87 (ax:Axs):zd0 (EE ax) 87=some ⟨.struct fs86,21,168,zS86⟩:=by kernel_rfl
theorem el88 (ax:Axs):zd0 (EE ax) 88=some ⟨.string,1,16,[.string ⟨#[]⟩]⟩:=by kernel_rfl
instance:Inhabited ByteArray:=⟨⟨#[]⟩⟩
theorem zca {α:Type} {n:Nat} {f:α->T} (h:∀ x,(f x).ids n=true):∀ (l:List α),kv n (l.map f)=true
  |[]=>rfl
  |x :: l=>by simp only [jb,kv,h,zca h l,gl]
theorem zkk {α:Type} {n:Nat} {f:α->T} (h:∀ x,kv n (f x).cells=true):∀ (l:List α),kv n (vecC f l)=true
  |[]=>rfl
  |x :: l=>by
    have:=zkk h l;unfold vecC at this ⊢;rw [jb,jh,zax,h,this];rfl
def ints (l:List Int):T:=.lst 1 (l.map (fm .i64))
theorem zqm {n:Nat} (l:List Int):(ints l).ids n=true:=zca (fun _=>rfl) l
theorem z2x {n:Nat} (l:List Int):kv n (l.map (fm .i64))=true:=zca (fun _=>rfl) l
def z5k (l:List (List Int)):T:=.lst 1 (l.map ints)
theorem z2z {n:Nat} (l:List (List Int)):(z5k l).ids n=true:=zca (fun x=>zqm x) l
theorem zyb {n:Nat} (l:List (List Int)):kv n (l.map ints)=true:=zca (fun x=>zqm x) l
theorem z3x (x:List Int):(ints x).cells=[ints x]:=gg rfl rfl
theorem z2a (x:List Int):nj (ints x)=true:=gg rfl rfl
def strs (l:List ByteArray):T:=.lst 1 (l.map T.str)
theorem z75 {n:Nat} (l:List ByteArray):(strs l).ids n=true:=zca (fun _=>rfl) l
theorem z2u {n:Nat} (l:List ByteArray):kv n (l.map T.str)=true:=zca (fun _=>rfl) l
structure Merg where
  kind:Int
  i:Int
  k:Int
deriving Inhabited,DecidableEq
def zj8 (x:Merg):T:=.agg ([fm .i64 x.kind,fm .i64 x.i,fm .i64 x.k])
theorem yaq {n:Nat} (x:Merg):kv n (zj8 x).cells=true:=by simp only [zj8,jk,q8,kv,zax,zgq,gl]
theorem zqp {n:Nat} (x:Merg):(zj8 x).ids n=true:=by simp only [zj8,q8,kv,zax,zgq,gl]
def zps (x:Merg):List Value:=[jo .i64 x.kind,jo .i64 x.i,jo .i64 x.k]
def z4o:List CK:=[CK.int .i64,CK.int .i64,CK.int .i64]
theorem zzq (x:Merg):zgp ([fm .i64 x.kind,fm .i64 x.i,fm .i64 x.k])=some (zps x):=(zl2 rfl (zl2 rfl (zl2 rfl rfl)))
theorem z0g (x:Merg):zeu z4o (zps x)=true:=(zqt (z88 _ _) (zqt (z88 _ _) (zqt (z88 _ _) rfl)))
theorem yiu (a b:Merg):a=b↔a.kind=b.kind/\a.i=b.i/\a.k=b.k:=by cases a;cases b;simp
theorem yfe (a b:Merg):eqVs (zps a) (zps b)=decide (a=b):=by
  rw [lc];simp [zps,z5v,z0k,eqVs,znw,and_assoc,yiu]
structure Pat where
  mask:Ar 10
  bits:Ar 10
deriving Inhabited,DecidableEq
def ePat (x:Pat):T:=.agg (x.mask.l.map (fm .i64)++(x.bits.l.map (fm .i64)))
theorem yew {n:Nat} (x:Pat):kv n (ePat x).cells=true:=by simp only [ePat,jk,q8,kv,zax,zgq,gl]
theorem ztb {n:Nat} (x:Pat):(ePat x).ids n=true:=by simp only [ePat,q8,kv,zax,zgq,gl]
theorem za2 (x:Pat):(ePat x).cells.length=20:=by simp only [ePat,jk,gq,jl,zu0,f5,Ar.len]
theorem zoe (x:Pat):(ePat x).cells.all nj=true:=by simp only [ePat,jk,ju,List.all_nil,z0u,zrt,zs7,zqc,zs5,zs6,gl]
theorem z68 (n:Nat):rep n ((zA 10).l.map (fm .i64)++((zA 10).l.map (fm .i64)))=vecC ePat (gi n (⟨zA 10,zA 10⟩:Pat)):=yc3 (f:=ePat) (⟨zA 10,zA 10⟩:Pat) n
def ztm (x:Pat):List Value:=x.mask.l.map (jo .i64)++(x.bits.l.map (jo .i64))
def ycf:List CK:=gi 10 (CK.int .i64)++(gi 10 (CK.int .i64))
theorem z6s (x:Pat):zgp (x.mask.l.map (fm .i64)++(x.bits.l.map (fm .i64)))=some (ztm x):=(zl3 (zjg _) (zjg _))
theorem z8o (x:Pat):zeu ycf (ztm x)=true:=(z5s _ (z8n _))
theorem ygi (a b:Pat):a=b↔a.mask=b.mask/\a.bits=b.bits:=by cases a;cases b;simp
theorem yle (a b:Pat):eqVs (ztm a) (ztm b)=decide (a=b):=by
  rw [lc];simp [ztm,z5v,z0k,eqVs,znw,and_assoc,ygi]
structure Alt where
  link:Int
  mod:Pat
deriving Inhabited,DecidableEq
def eAlt (x:Alt):T:=.agg (fm .i64 x.link :: (x.mod.mask.l.map (fm .i64)++(x.mod.bits.l.map (fm .i64))))
theorem yex {n:Nat} (x:Alt):kv n (eAlt x).cells=true:=by simp only [eAlt,jk,q8,kv,zax,zgq,gl]
theorem ztc {n:Nat} (x:Alt):(eAlt x).ids n=true:=by simp only [eAlt,q8,kv,zax,zgq,gl]
theorem zd7 (x:Alt):(eAlt x).cells.length=21:=by simp only [eAlt,jk,gq,jl,zu0,f5,Ar.len]
def ztn (x:Alt):List Value:=jo .i64 x.link :: (x.mod.mask.l.map (jo .i64)++(x.mod.bits.l.map (jo .i64)))
def ycg:List CK:=CK.int .i64 :: (gi 10 (CK.int .i64)++(gi 10 (CK.int .i64)))
theorem z6t (x:Alt):zgp (fm .i64 x.link :: (x.mod.mask.l.map (fm .i64)++(x.mod.bits.l.map (fm .i64))))=some (ztn x):=(zl2 rfl (zl3 (zjg _) (zjg _)))
theorem z8p (x:Alt):zeu ycg (ztn x)=true:=(zqt (z88 _ _) (z5s _ (z8n _)))
theorem ynx (a b:Alt):a=b↔a.link=b.link/\a.mod=b.mod:=by cases a;cases b;simp
theorem ylf (a b:Alt):eqVs (ztn a) (ztn b)=decide (a=b):=by
  rw [lc];simp [ztn,z5v,z0k,eqVs,znw,and_assoc,ygi,ynx]
def lAlt (l:List Alt):T:=.lst 21 (l.map eAlt)
theorem zta {n:Nat} (l:List Alt):(lAlt l).ids n=true:=zca (fun x=>ztc x) l
theorem z2w {n:Nat} (l:List Alt):kv n (l.map eAlt)=true:=zca (fun x=>ztc x) l
theorem z2t {n:Nat} (l:List Alt):kv n (vecC eAlt l)=true:=zkk (fun x=>yex x) l
def za5 (l:List (List Alt)):T:=.lst 1 (l.map lAlt)
theorem zql {n:Nat} (l:List (List Alt)):(za5 l).ids n=true:=zca (fun x=>zta x) l
theorem zyc {n:Nat} (l:List (List Alt)):kv n (l.map lAlt)=true:=zca (fun x=>zta x) l
theorem z3w (x:List Alt):(lAlt x).cells=[lAlt x]:=gg rfl rfl
theorem z19 (x:List Alt):nj (lAlt x)=true:=gg rfl rfl
structure Rule where
  prio:Int
  mat:Pat
  step:Int
  outs:List (List Alt)
deriving Inhabited,DecidableEq
def zak (x:Rule):T:=.agg (fm .i64 x.prio :: (x.mat.mask.l.map (fm .i64)++(x.mat.bits.l.map (fm .i64)++[fm .i64 x.step,za5 x.outs])))
theorem yao {n:Nat} (x:Rule):kv n (zak x).cells=true:=by simp only [zak,jk,q8,kv,zax,zgq,zql,gl]
theorem zqn {n:Nat} (x:Rule):(zak x).ids n=true:=by simp only [zak,q8,kv,zax,zgq,zql,gl]
theorem zau (x:Rule):(zak x).cells.length=23:=by simp only [zak,jk,gq,jl,zu0,f5,Ar.len]
theorem ziz (x:Rule):(zak x).cells.all nj=true:=by simp only [zak,jk,ju,List.all_nil,z0u,zrt,zs7,zqc,zs5,zs6,gl,za5.eq_1]
structure Node where
  name:ByteArray
  box:Bool
  rules:Int
  entries:Int
deriving Inhabited,DecidableEq
def zqz (x:Node):T:=.agg ([T.str x.name,T.bool x.box,fm .i64 x.rules,fm .i64 x.entries])
theorem yap {n:Nat} (x:Node):kv n (zqz x).cells=true:=by simp only [zqz,jk,q8,kv,zax,zgq,gl]
theorem zqo {n:Nat} (x:Node):(zqz x).ids n=true:=by simp only [zqz,q8,kv,zax,zgq,gl]
structure Link where
  frm:Int
  to:Int
  cap:Int
deriving Inhabited,DecidableEq
def zq0 (x:Link):T:=.agg ([fm .i64 x.frm,fm .i64 x.to,fm .i64 x.cap])
theorem yar {n:Nat} (x:Link):kv n (zq0 x).cells=true:=by simp only [zq0,jk,q8,kv,zax,zgq,gl]
theorem zqq {n:Nat} (x:Link):(zq0 x).ids n=true:=by simp only [zq0,q8,kv,zax,zgq,gl]
structure Edge where
  name:ByteArray
  node:Int
deriving Inhabited,DecidableEq
def zq1 (x:Edge):T:=.agg ([T.str x.name,fm .i64 x.node])
theorem yas {n:Nat} (x:Edge):kv n (zq1 x).cells=true:=by simp only [zq1,jk,q8,kv,zax,zgq,gl]
theorem zqr {n:Nat} (x:Edge):(zq1 x).ids n=true:=by simp only [zq1,q8,kv,zax,zgq,gl]
def zft (l:List Node):T:=.lst 4 (l.map zqz)
theorem zu6 {n:Nat} (l:List Node):(zft l).ids n=true:=zca (fun x=>zqo x) l
theorem zx8 {n:Nat} (l:List Node):kv n (l.map zqz)=true:=zca (fun x=>zqo x) l
theorem zx3 {n:Nat} (l:List Node):kv n (vecC zqz l)=true:=zkk (fun x=>yap x) l
def zfu (l:List Link):T:=.lst 3 (l.map zq0)
theorem zu7 {n:Nat} (l:List Link):(zfu l).ids n=true:=zca (fun x=>zqq x) l
theorem zya {n:Nat} (l:List Link):kv n (l.map zq0)=true:=zca (fun x=>zqq x) l
theorem zx5 {n:Nat} (l:List Link):kv n (vecC zq0 l)=true:=zkk (fun x=>yar x) l
def zfv (l:List Edge):T:=.lst 2 (l.map zq1)
theorem zu8 {n:Nat} (l:List Edge):(zfv l).ids n=true:=zca (fun x=>zqr x) l
theorem zyd {n:Nat} (l:List Edge):kv n (l.map zq1)=true:=zca (fun x=>zqr x) l
theorem zx6 {n:Nat} (l:List Edge):kv n (vecC zq1 l)=true:=zkk (fun x=>yas x) l
structure Net where
  nodes:List Node
  links:List Link
  edges:List Edge
deriving Inhabited,DecidableEq
def eNet (x:Net):T:=.agg ([zft x.nodes,zfu x.links,zfv x.edges])
theorem z78 {n:Nat} (x:Net):(eNet x).ids n=true:=by simp only [eNet,q8,kv,zax,zgq,zu6,zu7,zu8,gl]
def zad (l:List Rule):T:=.lst 23 (l.map zak)
theorem zu5 {n:Nat} (l:List Rule):(zad l).ids n=true:=zca (fun x=>zqn x) l
theorem zx7 {n:Nat} (l:List Rule):kv n (l.map zak)=true:=zca (fun x=>zqn x) l
theorem zx2 {n:Nat} (l:List Rule):kv n (vecC zak l)=true:=zkk (fun x=>yao x) l
def zmb (l:List Merg):T:=.lst 3 (l.map zj8)
theorem z2y {n:Nat} (l:List Merg):(zmb l).ids n=true:=zca (fun x=>zqp x) l
theorem zx9 {n:Nat} (l:List Merg):kv n (l.map zj8)=true:=zca (fun x=>zqp x) l
theorem zx4 {n:Nat} (l:List Merg):kv n (vecC zj8 l)=true:=zkk (fun x=>yaq x) l
def lPat (l:List Pat):T:=.lst 20 (l.map ePat)
theorem z77 {n:Nat} (l:List Pat):(lPat l).ids n=true:=zca (fun x=>ztb x) l
theorem z2v {n:Nat} (l:List Pat):kv n (l.map ePat)=true:=zca (fun x=>ztb x) l
theorem z2s {n:Nat} (l:List Pat):kv n (vecC ePat l)=true:=zkk (fun x=>yew x) l
theorem aq30 (ax:Axs) (a b:Merg):(∀ (S:TS) (x y:gh),tBin Try.prog (EE ax) S 30 .eql x y (.agg ([fm .i64 a.kind,fm .i64 a.i,fm .i64 a.k])) (.agg ([fm .i64 b.kind,fm .i64 b.i,fm .i64 b.k]))=some (.bool (decide (a=b))))/\(∀ (S:TS) (x y:gh),tBin Try.prog (EE ax) S 30 .neq x y (.agg ([fm .i64 a.kind,fm .i64 a.i,fm .i64 a.k])) (.agg ([fm .i64 b.kind,fm .i64 b.i,fm .i64 b.k]))=some (.bool (!(decide (a=b))))):=⟨fun _ _ _=>(zrd (sh:=z4o) (by kernel_rfl) (by kernel_rfl) (zzq a) (zzq b) (z0g a) (z0g b) (yfe a b)).1,fun _ _ _=>(zrd (sh:=z4o) (by kernel_rfl) (by kernel_rfl) (zzq a) (zzq b) (z0g a) (z0g b) (yfe a b)).2⟩
theorem aq56 (ax:Axs) (a b:Pat):(∀ (S:TS) (x y:gh),tBin Try.prog (EE ax) S 56 .eql x y (.agg (a.mask.l.map (fm .i64)++(a.bits.l.map (fm .i64)))) (.agg (b.mask.l.map (fm .i64)++(b.bits.l.map (fm .i64))))=some (.bool (decide (a=b))))/\(∀ (S:TS) (x y:gh),tBin Try.prog (EE ax) S 56 .neq x y (.agg (a.mask.l.map (fm .i64)++(a.bits.l.map (fm .i64)))) (.agg (b.mask.l.map (fm .i64)++(b.bits.l.map (fm .i64))))=some (.bool (!(decide (a=b))))):=⟨fun _ _ _=>(zrd (sh:=ycf) (by kernel_rfl) (by kernel_rfl) (z6s a) (z6s b) (z8o a) (z8o b) (yle a b)).1,fun _ _ _=>(zrd (sh:=ycf) (by kernel_rfl) (by kernel_rfl) (z6s a) (z6s b) (z8o a) (z8o b) (yle a b)).2⟩
theorem aq86 (ax:Axs) (a b:Alt):(∀ (S:TS) (x y:gh),tBin Try.prog (EE ax) S 86 .eql x y (.agg (fm .i64 a.link :: (a.mod.mask.l.map (fm .i64)++(a.mod.bits.l.map (fm .i64))))) (.agg (fm .i64 b.link :: (b.mod.mask.l.map (fm .i64)++(b.mod.bits.l.map (fm .i64)))))=some (.bool (decide (a=b))))/\(∀ (S:TS) (x y:gh),tBin Try.prog (EE ax) S 86 .neq x y (.agg (fm .i64 a.link :: (a.mod.mask.l.map (fm .i64)++(a.mod.bits.l.map (fm .i64))))) (.agg (fm .i64 b.link :: (b.mod.mask.l.map (fm .i64)++(b.mod.bits.l.map (fm .i64)))))=some (.bool (!(decide (a=b))))):=⟨fun _ _ _=>(zrd (sh:=ycg) (by kernel_rfl) (by kernel_rfl) (z6t a) (z6t b) (z8p a) (z8p b) (ylf a b)).1,fun _ _ _=>(zrd (sh:=ycg) (by kernel_rfl) (by kernel_rfl) (z6t a) (z6t b) (z8p a) (z8p b) (ylf a b)).2⟩
theorem eqA:type_of% (fi (fi (fi (fi (@ints.eq_1) (fi (@z5k.eq_1) (@z3x))) (fi (@z2a) (fi (@strs.eq_1) (@zj8.eq_1)))) (fi (fi (@ePat.eq_1) (fi (@eAlt.eq_1) (@lAlt.eq_1))) (fi (@za5.eq_1) (fi (@z3w) (@z19))))) (fi (fi (fi (@zak.eq_1) (fi (@zqz.eq_1) (@zq0.eq_1))) (fi (@zq1.eq_1) (fi (@zft.eq_1) (@zfu.eq_1)))) (fi (fi (@zfv.eq_1) (fi (@eNet.eq_1) (@zad.eq_1))) (fi (@zmb.eq_1) (fi (@lPat.eq_1) (@yiy)))))):=fi (fi (fi (fi (@ints.eq_1) (fi (@z5k.eq_1) (@z3x))) (fi (@z2a) (fi (@strs.eq_1) (@zj8.eq_1)))) (fi (fi (@ePat.eq_1) (fi (@eAlt.eq_1) (@lAlt.eq_1))) (fi (@za5.eq_1) (fi (@z3w) (@z19))))) (fi (fi (fi (@zak.eq_1) (fi (@zqz.eq_1) (@zq0.eq_1))) (fi (@zq1.eq_1) (fi (@zft.eq_1) (@zfu.eq_1)))) (fi (fi (@zfv.eq_1) (fi (@eNet.eq_1) (@zad.eq_1))) (fi (@zmb.eq_1) (fi (@lPat.eq_1) (@yiy)))))
theorem eqB:type_of% (fi (fi (@z6f) (fi (@ybe) (@zy4))) (fi (fi (@yix) (@z6e)) (fi (@yiw) (@z6d)))):=fi (fi (@z6f) (fi (@ybe) (@zy4))) (fi (fi (@yix) (@z6e)) (fi (@yiw) (@z6d)))
theorem eqsA:type_of% (fi (fi (fi (fi (@z4p) (fi (@sgT) (@sgT1))) (fi (@sgD) (fi (@sgD1) (@sgG)))) (fi (fi (@splA) (fi (@yoe) (@yod))) (fi (@splS) (fi (@yf9) (@z36))))) (fi (fi (fi (@zu0) (fi (@z0u) (@z03))) (fi (@z3h) (fi (@yj0) (@yo4)))) (fi (fi (@yjz) (fi (@yen) (@yfi))) (fi (@yny) (fi (@Ar.len) (@zrt)))))):=fi (fi (fi (fi (@z4p) (fi (@sgT) (@sgT1))) (fi (@sgD) (fi (@sgD1) (@sgG)))) (fi (fi (@splA) (fi (@yoe) (@yod))) (fi (@splS) (fi (@yf9) (@z36))))) (fi (fi (fi (@zu0) (fi (@z0u) (@z03))) (fi (@z3h) (fi (@yj0) (@yo4)))) (fi (fi (@yjz) (fi (@yen) (@yfi))) (fi (@yny) (fi (@Ar.len) (@zrt)))))
theorem eqsB:type_of% (fi (fi (fi (@z30) (@z0v)) (fi (@ylp) (@sub0))) (fi (fi (@z6n) (@z0q)) (fi (@ybs) (fi (@ylq) (@ygd))))):=fi (fi (fi (@z30) (@z0v)) (fi (@ylp) (@sub0))) (fi (fi (@z6n) (@z0q)) (fi (@ybs) (fi (@ylq) (@ygd))))
theorem idsA:type_of% (fi (fi (fi (fi (@zqm) (fi (@z2x) (@z2z))) (fi (@zyb) (fi (@z75) (@z2u)))) (fi (fi (@zqp) (fi (@ztb) (@ztc))) (fi (@zta) (fi (@z2w) (@z2t))))) (fi (fi (fi (@zql) (fi (@zyc) (@zqn))) (fi (@zqo) (fi (@zqq) (@zqr)))) (fi (fi (@zu6) (fi (@zx8) (@zx3))) (fi (@zu7) (fi (@zya) (@zx5)))))):=fi (fi (fi (fi (@zqm) (fi (@z2x) (@z2z))) (fi (@zyb) (fi (@z75) (@z2u)))) (fi (fi (@zqp) (fi (@ztb) (@ztc))) (fi (@zta) (fi (@z2w) (@z2t))))) (fi (fi (fi (@zql) (fi (@zyc) (@zqn))) (fi (@zqo) (fi (@zqq) (@zqr)))) (fi (fi (@zu6) (fi (@zx8) (@zx3))) (fi (@zu7) (fi (@zya) (@zx5)))))
theorem idsB:type_of% (fi (fi (fi (fi (@zu8) (@zyd)) (fi (@zx6) (@z78))) (fi (fi (@zu5) (@zx7)) (fi (@zx2) (@z2y)))) (fi (fi (fi (@zx9) (@zx4)) (fi (@z77) (@z2v))) (fi (fi (@z2s) (@yj3)) (fi (@zgq) (fi (@yey) (@zax)))))):=fi (fi (fi (fi (@zu8) (@zyd)) (fi (@zx6) (@z78))) (fi (fi (@zu5) (@zx7)) (fi (@zx2) (@z2y)))) (fi (fi (fi (@zx9) (@zx4)) (fi (@z77) (@z2v))) (fi (fi (@z2s) (@yj3)) (fi (@zgq) (fi (@yey) (@zax)))))
structure ynt (ax:Axs):Prop where
  no:∀ f,gd f 9=false->ax f=none
  san:Pure Try.prog (EE ax) [] 9 [] (.bool true)
theorem Pure.clr {P:gz} {Γ:Env} {GL:List (Nat×List Value)} {f:FuncId} {args:List T} {v v2:T} {S:TS} (k:Pure P Γ GL f args v) (e:v=v2):zaj P Γ GL f args S v2:=e ▸ k.call S
mutual
inductive Rt (W:World):T->Value->Prop
  |int (k n):Rt W (.int k n) (.int k n)
  |bool (b):Rt W (.bool b) (.bool b)
  |str (b):Rt W (.str b) (.string b)
  |agg {l cs}:RtL W l cs->Rt W (.agg l) (.agg ⟨cs⟩)
  |nil {e}:Rt W (.lst e []) (.slice none 0 0)
  |zero {e a}:0<e->0<W.heap.size->Rt W (.lst e []) (.slice (some a) 0 0)
  |lst {e l b off cap cs}:RtL W (l.flatMap jk) cs->(∀ t,t∈l->t.cells.length=e)->0<e->l.length<=cap->cap<=maxLen->(W.cell? ⟨b,off,none⟩).isSome=true->(∀ (j:Nat) u,cs[j]?=some u->W.cell? ⟨b,off+j,none⟩=some u)->Rt W (.lst e l) (.slice (some ⟨b,off,none⟩) l.length cap)
inductive RtL (W:World):List T->List Value->Prop
  |nil:RtL W [] []
  |cons {t v l vs}:Rt W t v->RtL W l vs->RtL W (t :: l) (v :: vs)
end
section
variable {W:World} {N:Nat} {G:List Nat} {K:List (Nat×List Value)}
theorem RtL.len:∀ {l:List T} {vs:List Value},RtL W l vs->l.length=vs.length
  |_,_,.nil=>rfl
  |_,_,.cons _ h=>by rw [gq,gq,h.len]
theorem z54 {b j k:Nat} (h:(W.cell? ⟨b,k,none⟩).isSome=true) (hj:j<=k):(W.cell? ⟨b,j,none⟩).isSome=true:=by
  unfold r9 at h ⊢;simp only at h ⊢;split at h
  . rename_i c _ _ hb;simp only [Option.isSome_none,Bool.false_eq_true,if_false] at h ⊢
    have:k<c.size:=by
      by_cases hk:k<c.size
      . exact hk
      . rw [Array.getElem?_eq_none (by omega)] at h;simp at h
    rw [lf (by omega)];rfl
  . simp at h
theorem yic {b k:Nat} (h:(W.cell? ⟨b,k,none⟩).isSome=true):b<W.heap.size:=by
  unfold r9 at h;simp only at h;by_cases hb:b<W.heap.size
  . exact hb
  . rw [Array.getElem?_eq_none (by omega)] at h;simp at h
theorem zuf {u:Nat} {m:List (Nat×List Value)}:∀ {l:List (Nat×List Value)},(∀ p,p∈l->p.1≠u)->zbp (l++m) u=zbp m u
  |[],_=>rfl
  |p :: l,h=>by
    show (bif gd p.1 u then some p.2 else zbp (l++m) u)=_;rw [zi8 (h p (by simp)),cond_false];exact zuf fun q hq=>h q (by simp [hq])
theorem zt5 {f:Nat} {q:Seg}:∀ {F:List Seg} {i j:Nat},F[i]?=some q->q.b=f->zbp (zks N f j F) ((N+(j+i))*1024)=some q.cs
  |[],i,j,h,_=>by simp at h
  |p :: F,0,j,h,hb=>by
    simp only [ik,fk] at h;subst h;unfold zks;rw [zAc hb]
    simp [zbp,Nat.beq_refl]
  |p :: F,i+1,j,h,hb=>by
    have ih:=zt5 (F:=F) (i:=i) (j:=j+1) (by simpa using h) hb;rw [show j+1+i=j+(i+1) by omega] at ih;unfold zks;split
    . unfold zbp
      have:gd ((N+j)*1024) ((N+(j+(i+1)))*1024)=false:=by
        cases hq:gd ((N+j)*1024) ((N+(j+(i+1)))*1024) with
        |false=>rfl
        |true=>have:=ft hq;omega
      rw [this];exact ih
    . exact ih
def Low (N:Nat):Nat->Prop:=fun f=>f<N
structure En (W:World) (N:Nat) (G:List Nat) (K:List (Nat×List Value)) (pre A:List Seg) (l:List T) (xs vs:List Value):Prop where
  vr:∀ post,RL (VR (sgS N G K (pre++A++post))) xs vs
  vl:∀ post,VL (Low N) bx0 (famS N K (pre++A++post)) l xs
  at_:∀ post q,q∈A->ypt (sgS N G K (pre++A++post)) W q
theorem yof (hK:∀ p,p∈K->has G p.1=true) (hG:∀ g,has G g=true->g<N) {F:List Seg} {i:Nat} {q:Seg} (hq:F[i]?=some q) (hb:q.b<N) :
    sgS N G K F q.b ((N+i)*1024)=some (q.b,q.o,q.o+q.cs.length)/\zbp (famS N K F q.b).rows ((N+i)*1024)=some q.cs:=by
  constructor
  . unfold sgS;rw [zAd (by rintro ⟨_,h⟩;omega),zAc (by omega)];have e:(N+i)*1024 / 1024 - N=i:=by omega
    rw [e,hq];show (if q.b=q.b then _ else _)=_;rw [zAc rfl]
  . show zbp ((famK K q.b).rows++zks N q.b 0 F) _=_;rw [zuf fun p hp=>?_]
    . have:=zt5 (N:=N) (j:=0) hq rfl
      rwa [jc] at this
    . obtain ⟨h1,h2,_⟩:=zvj hp;have:=hG _ (hK _ h2);rw [h1];simp only at this;omega
theorem yeu {α:Type} (pre A post:List α) (q:α):(pre++(A++[q])++post)[pre.length+A.length]?=some q:=by
  rw [gt,gt,iy (by omega),iy (by omega)];simp
mutual
theorem ent (hN:N=W.heap.size) (hK:∀ p,p∈K->has G p.1=true) (hG:∀ g,has G g=true->g<N):∀ {t:T} {v:Value},Rt W t v->∀ pre,∃ A x,En W N G K pre A [t] [x] [v]
  |_,_,.int k n,pre=>⟨[],.int k n,⟨fun _=>⟨zil 3 rfl,trivial⟩,fun _=>.cons (.int k n) .nil,fun _ q hq=>by simp at hq⟩⟩
  |_,_,.bool b,pre=>⟨[],.bool b,⟨fun _=>⟨zil 3 rfl,trivial⟩,fun _=>.cons (.bool b) .nil,fun _ q hq=>by simp at hq⟩⟩
  |_,_,.str b,pre=>⟨[],.string b,⟨fun _=>⟨zil 3 rfl,trivial⟩,fun _=>.cons (.str b) .nil,fun _ q hq=>by simp at hq⟩⟩
  |_,_,.agg h,pre=>by
    obtain ⟨A,xs,k⟩:=entL hN hK hG h pre;exact ⟨A,.agg ⟨xs⟩,fun post=>⟨VR.mk ⟨_,rfl,k.vr post⟩,trivial⟩,fun post=>.cons (.agg (k.vl post)) .nil,k.at_⟩
  |_,_,.nil,pre=>⟨[],.slice none 0 0,⟨fun _=>⟨VR.mk ⟨rfl,rfl,rfl⟩,trivial⟩,fun _=>.cons .lnil .nil,fun _ q hq=>by simp at hq⟩⟩
  |.lst e _,.slice _ _ _,@Rt.zero _ _ a he hs,pre=>by
    have hi:=fun post=>yeu pre [] post (⟨0,0,[]⟩:Seg);have h0:∀ post,_:=fun post=>yof (q:=(⟨0,0,[]⟩:Seg)) hK hG (hi post) (by show 0<N;omega);refine ⟨[⟨0,0,[]⟩],.slice (some (mkA 0 ((N+(pre.length+0))*1024) 0)) 0 0,⟨fun post=>⟨VR.mk ⟨0,0,_,(h0 post).1,a,0,rfl,fy _,fy _,iz _,fun h=>absurd rfl h,fun _=>rfl,fun _ h=>absurd rfl h⟩,trivial⟩,fun post=>.cons ?_ .nil,fun post q hq=>?_⟩⟩
    . exact .lst (l:=[]) (cs:=[]) (show (0:Nat)<N by omega) (h0 post).2 .nil (fun t ht=>by simp at ht) he rfl (.inl (by omega)) (fy _)
    . simp only [ig] at hq;subst hq;exact ⟨hs,fun j hj=>by simp at hj,fun j u hu=>by simp at hu⟩
  |.lst e l,.slice _ _ cap,@Rt.lst _ _ _ b off _ cs h hs he hl hm hc hcell,pre=>by
    obtain ⟨A,xs,k⟩:=entL hN hK hG h pre;have hxl:xs.length=cs.length:=(k.vr []).length;have hb:b<W.heap.size:=yic hc;have hi:=fun post=>yeu pre A post (⟨b,off,xs⟩:Seg);have h0:=fun post=>yof (q:=(⟨b,off,xs⟩:Seg)) hK hG (hi post) (by show b<N;omega);have hF:∀ post,pre++(A++[⟨b,off,xs⟩])++post=pre++A++((⟨b,off,xs⟩:Seg) :: post):=fun post=>by simp
    refine ⟨A++[⟨b,off,xs⟩],.slice (some (mkA b ((N+(pre.length+A.length))*1024) 0)) l.length cap,⟨fun post=>⟨VR.mk ⟨b,off,_,(h0 post).1,⟨b,off,none⟩,cap,rfl,hl,fy _,hm,fun _=>rfl,fun _=>rfl,fun ht=>?_⟩,trivial⟩,fun post=>.cons ?_ .nil,fun post q hq=>?_⟩⟩
    . rw [zjx] at ht;omega
    . refine .lst (cs:=xs) (show b<N by omega) (h0 post).2 ?_ hs he (by rw [gu,List.take_length]) (.inl (by omega)) hl;rw [hF];exact k.vl _
    . rcases ii.1 hq with hq|hq
      . rw [hF];exact k.at_ _ q hq
      . simp only [ig] at hq;subst hq;refine ⟨hb,fun j hj=>?_,fun j u hu=>?_⟩
        . have hj:j<off+xs.length:=hj;by_cases h1:j<=off
          . exact z54 hc h1
          . have hjc:j - off<cs.length:=by omega
            have:=hcell (j - off) _ (fq hjc);rw [show off+(j - off)=j by omega] at this;rw [this];rfl
        . have hju:j<xs.length:=(gm.1 hu).1;have hu:xs[j]?=some u:=hu;have hcs:=fq (l:=cs) (i:=j) (by omega);refine ⟨_,hcell j _ hcs,?_⟩;rw [hF];obtain ⟨y,hy1,hy2⟩:=(k.vr (⟨b,off,xs⟩ :: post)).at hu;rw [hcs] at hy1;cases hy1;exact hy2
theorem entL (hN:N=W.heap.size) (hK:∀ p,p∈K->has G p.1=true) (hG:∀ g,has G g=true->g<N):∀ {l:List T} {vs:List Value},RtL W l vs->∀ pre,∃ A xs,En W N G K pre A l xs vs
  |_,_,.nil,pre=>⟨[],[],⟨fun _=>trivial,fun _=>.nil,fun _ q hq=>by simp at hq⟩⟩
  |_,_,.cons h1 h2,pre=>by
    obtain ⟨A1,x,k1⟩:=ent hN hK hG h1 pre;obtain ⟨A2,xs,k2⟩:=entL hN hK hG h2 (pre++A1);have e1:∀ post,pre++(A1++A2)++post=pre++A1++(A2++post):=fun post=>by simp
    have e2:∀ post,pre++(A1++A2)++post=pre++A1++A2++post:=fun post=>by simp
    refine ⟨A1++A2,x :: xs,⟨fun post=>⟨?_,?_⟩,fun post=>?_,fun post q hq=>?_⟩⟩
    . rw [e1];exact (k1.vr _).1
    . rw [e2];exact k2.vr _
    . have a:=k1.vl (A2++post);have b:=k2.vl post;rw [<- e1] at a;rw [<- e2] at b
      cases a with
      |cons a _=>exact .cons a b
    . rcases ii.1 hq with hq|hq
      . rw [e1];exact k1.at_ _ q hq
      . rw [e2];exact k2.at_ _ q hq
end
end
inductive Sh where
  |int (k:i5)
  |bool
  |str
  |slice (e:Sh)
  |struct (l:List Sh)
  |arr (k:i5) (n:Nat)
mutual
def Sh.sz:Sh->Nat
  |.struct l=>Sh.szL l
  |.arr _ n=>n
  |_=>1
def Sh.szL:List Sh->Nat
  |[]=>0
  |s :: l=>s.sz+Sh.szL l
end
mutual
def shOk (P:gz):Sh->gw->Bool
  |.int k,t=>match P.underlying t with|some (.int k')=>decide (k=k')|_=>false
  |.bool,t=>match P.underlying t with|some .bool=>true|_=>false
  |.str,t=>match P.underlying t with|some .string=>true|_=>false
  |.slice s,t=>match P.underlying t with|some (.slice e)=>gd (P.cellsOf e) s.sz && (Nat.blt 0 s.sz && shOk P s e)|_=>false
  |.struct l,t=>match P.underlying t with|some (.struct fs)=>gd (P.cellsOf t) (Sh.szL l) && z91 P l fs.toList 0|_=>false
  |.arr k n,t=>match P.underlying t with|some (.array m e)=>gd m n && (gd (P.cellsOf t) n && (gd (P.cellsOf e) 1 && (match P.underlying e with|some (.int k')=>decide (k=k')|_=>false)))|_=>false
def z91 (P:gz):List Sh->List Field->Nat->Bool
  |[],[],_=>true
  |s :: l,f :: fs,o=>gd f.offset o && (gd (P.cellsOf f.type) s.sz && (shOk P s f.type && z91 P l fs (o+s.sz)))
  |_,_,_=>false
end
mutual
def conf:Sh->T->Prop
  |.int k,t=>∃ n,t=.int k n/\(Lit.int k n).wf=true
  |.bool,t=>∃ b,t=.bool b
  |.str,t=>∃ s,t=.str s/\s.size<=maxLen
  |.slice e,t=>∃ l,t=.lst e.sz l/\l.length<=maxLen/\∀ x,x∈l->conf e x
  |.struct l,t=>∃ cs,t=.agg cs/\yna l cs
  |.arr k n,t=>∃ a:Ar n,t=.agg (a.l.map (fm k))/\∀ x,x∈a.l->(Lit.int k x).wf=true
def yna:List Sh->List T->Prop
  |[],cs=>cs=[]
  |s :: l,cs=>∃ x r,cs=x.cells++r/\conf s x/\yna l r
end
theorem yfv {α:Type} {p:Nat->α->Prop}:∀ n,(∀ i,i<n->∃ x,p i x)->∃ l:List α,l.length=n/\∀ i (hi:i<l.length),p i l[i]:=by
  intro n
  induction n with
  |zero=>intro _;exact ⟨[],rfl,fun i hi=>by simp at hi⟩
  |succ n ih =>
    intro h;obtain ⟨l,hl,hp⟩:=ih (fun i hi=>h i (by omega));obtain ⟨x,hx⟩:=h n (by omega);refine ⟨l++[x],by simp [hl],fun i hi=>?_⟩;by_cases hin:i<l.length
    . rw [List.getElem_append_left hin];exact hp i hin
    . have:i=l.length:=by simp at hi;omega
      subst this;rw [List.getElem_append_right (fy _)];simpa [hl] using hx
section
variable {H:Type} {enc:gw×Value->H} {P:gz} {W:World}
theorem RtL.append:∀ {l l2:List T} {vs vs2:List Value},RtL W l vs->RtL W l2 vs2->RtL W (l++l2) (vs++vs2)
  |_,_,_,_,.nil,k=>k
  |_,_,_,_,.cons h k,k2=>.cons h (k.append k2)
theorem RtL.flat:∀ {l:List (T×List Value)},(∀ p,p∈l->RtL W p.1.cells p.2)->RtL W ((l.map (·.1)).flatMap jk) (l.map (·.2)).flatten
  |[],_=>.nil
  |p :: l,h=>by
    rw [jb,jh,jb,ir];exact (h p (by simp)).append (RtL.flat fun q hq=>h q (by simp [hq]))
theorem zyh {b k:Nat}:∀ {l:List (List Value)} {o:Nat},(∀ c,c∈l->c.length=k)->(∀ (i:Nat) c,l[i]?=some c->∀ j,j<k->W.cell? ⟨b,o+i*k+j,none⟩=c[j]?)->∀ (j:Nat) u,l.flatten[j]?=some u->W.cell? ⟨b,o+j,none⟩=some u
  |[],o,_,_,j,u,h=>by simp at h
  |c :: l,o,hl,hc,j,u,h=>by
    have hck:=hl c (by simp);rw [ir] at h;by_cases hj:j<c.length
    . rw [gr hj] at h;have:=hc 0 c rfl j (by omega);rw [Nat.zero_mul,kb] at this;rw [this,h]
    . rw [iy (by omega)] at h
      have:=zyh (o:=o+k) (fun c hc=>hl c (by simp [hc])) (fun i c' hi j hj=>by
        have:=hc (i+1) c' (by simpa using hi) j hj;rw [show o+(i+1)*k+j=o+k+i*k+j by rw [jt];omega] at this
        exact this) (j - c.length) u h
      rw [show o+k+(j - c.length)=o+j by omega] at this;exact this
def zv0 (W:World) (cs:List Value):Prop:=∀ v,v∈cs->(∃ a n c,v=.slice (some a) n c)->0<W.heap.size
theorem zv0.of (h:0<W.heap.size) (cs:List Value):zv0 W cs:=fun _ _ _=>h
theorem zv0.sub {cs cs':List Value} (h:zv0 W cs) (hs:∀ v,v∈cs'->v∈cs):zv0 W cs':=fun v hv=>h v (hs v hv)
theorem z90 {s:Sh} {e t:gw} {fuel:Nat} {cs:List Value} {x:DataW H×List MemPlace} (ht:P.underlying t=some (.slice e)) (hsz:P.cellsOf e=s.sz) (hpos:0<s.sz)
    (ih:∀ {fuel:Nat} {cs:List Value} {x:DataW H×List MemPlace},DataW.trod enc P W 0 (fun _=>true) true fuel e cs=some x->zv0 W cs->∃ tr,conf s tr/\RtL W tr.cells cs)
    (h:DataW.trod enc P W 0 (fun _=>true) true fuel t cs=some x) (hz:zv0 W cs):∃ tr,conf (.slice s) tr/\RtL W tr.cells cs:=by
  rcases Go.Deep.open_slice ht h with ⟨rfl,_⟩|⟨a,len,cap,m,n,D,Pl,rfl,hb,hl,hm,hmm,_,hall⟩
  . exact ⟨.lst s.sz [],⟨[],rfl,iz _,fun x hx=>by simp at hx⟩,.cons .nil .nil⟩
  . have hh:0<W.heap.size:=hz (.slice (some a) len cap) (by simp) ⟨_,_,_,rfl⟩;simp only [if_true] at hmm;subst hmm;rw [hsz] at hall;by_cases h0:m=0
    . subst h0;have:len=0:=by omega
      subst this;exact ⟨.lst s.sz [],⟨[],rfl,iz _,fun x hx=>by simp at hx⟩,.cons (.zero hpos hh) .nil⟩
    obtain ⟨cs0,hc0,_⟩:=hall 0 (by omega);obtain ⟨_,hl0,hcc0⟩:=World.cells?_some hc0
    have hcell0:((W.cell? ((a.add (0*s.sz)).add 0))).isSome=true:=by
      rw [hcc0 0 hpos,fq (by omega)];rfl
    obtain ⟨b,off,spot⟩:=a
    have hspot:spot=none:=by
      cases hq:W.cell? (((⟨b,off,spot⟩:Addr).add (0*s.sz)).add 0) with
      |none=>rw [hq] at hcell0;simp at hcell0
      |some u=>simpa [Addr.add] using World.cell?_spot hq
    subst hspot;simp only [n6,Nat.zero_mul,kb] at hcell0
    obtain ⟨l,hll,hp⟩:=yfv (p:=fun i (p:T×List Value)=>conf s p.1/\RtL W p.1.cells p.2/\p.2.length=s.sz/\∀ j,j<s.sz->W.cell? ⟨b,off+i*s.sz+j,none⟩=p.2[j]?) len (fun i hi=>by
      obtain ⟨cs',h1,h2⟩:=hall i (by omega);obtain ⟨tr,k1,k2⟩:=ih h2 (zv0.of hh _);obtain ⟨-,hcl,hcc⟩:=World.cells?_some h1
      exact ⟨(tr,cs'),k1,k2,hcl,fun j hj=>by have:=hcc j hj;rw [n6,n6] at this;exact this⟩)
    have hmem:∀ p,p∈l->∃ i,i<l.length/\l[i]?=some p/\conf s p.1/\RtL W p.1.cells p.2/\p.2.length=s.sz:=fun p hp'=>by
      obtain ⟨i,hi,rfl⟩:=m5 hp';exact ⟨i,hi,fq hi,(hp i hi).1,(hp i hi).2.1,(hp i hi).2.2.1⟩
    refine ⟨.lst s.sz (l.map (·.1)),⟨_,rfl,by rw [f5];omega,fun x hx=>?_⟩,.cons ?_ .nil⟩
    . obtain ⟨p,hp1,rfl⟩:=jv.1 hx;obtain ⟨_,_,_,k,_⟩:=hmem p hp1;exact k
    . have:=Rt.lst (W:=W) (e:=s.sz) (l:=l.map (·.1)) (b:=b) (off:=off) (cap:=m) (cs:=(l.map (·.2)).flatten) (RtL.flat fun p hp1=>by obtain ⟨_,_,_,_,k,_⟩:=hmem p hp1;exact k) (fun t ht'=>?_) hpos (by rw [f5];omega) hm hcell0 ?_
      . rw [f5,hll] at this;exact this
      . obtain ⟨p,hp1,rfl⟩:=jv.1 ht';obtain ⟨_,_,_,_,k,k2⟩:=hmem p hp1;rw [k.len,k2]
      . refine zyh (k:=s.sz) (fun c hc=>?_) (fun i c hi=>?_)
        . obtain ⟨p,hp1,rfl⟩:=jv.1 hc;obtain ⟨_,_,_,_,_,k2⟩:=hmem p hp1;exact k2
        . rw [ls] at hi
          cases hq:l[i]? with
          |none=>rw [hq] at hi;simp at hi
          |some p =>
            rw [hq] at hi;simp only [Option.map_some,fk] at hi;subst hi;have hil:=(gm.1 hq).1;have:l[i]=p:=(gm.1 hq).2;have:=(hp i hil).2.2.2;rw [‹l[i]=p›] at this;exact this
theorem z9t {W:World} {k:i5}:∀ (l:List Int),RtL W (l.map (fm k)) (l.map (jo k))
  |[]=>.nil
  |x :: l=>.cons (.int _ _) (z9t l)
theorem beqN {a b:Nat} (h:gd a b=true):a=b:=ft h
mutual
theorem zuo:∀ {s:Sh} {t:gw} {fuel:Nat} {cs:List Value} {x:DataW H×List MemPlace},shOk P s t=true->DataW.trod enc P W 0 (fun _=>true) true fuel t cs=some x->zv0 W cs->∃ tr,conf s tr/\RtL W tr.cells cs
  |.int k,t,fuel,cs,x,hs,h,hz=>by
    unfold shOk at hs;split at hs
    . rename_i k' hu;have:k=k':=zAe hs;subst this;obtain ⟨n,rfl,-,hw⟩:=DataW.trod_int hu h;exact ⟨.int k n,⟨n,rfl,hw⟩,.cons (.int k n) .nil⟩
    . simp at hs
  |.bool,t,fuel,cs,x,hs,h,hz=>by
    unfold shOk at hs;split at hs
    . rename_i hu;obtain ⟨b,rfl,-⟩:=DataW.trod_bool hu h;exact ⟨.bool b,⟨b,rfl⟩,.cons (.bool b) .nil⟩
    . simp at hs
  |.str,t,fuel,cs,x,hs,h,hz=>by
    unfold shOk at hs;split at hs
    . rename_i hu;obtain ⟨b,rfl,-,hb⟩:=DataW.trod_string hu h;exact ⟨.str b,⟨b,rfl,hb⟩,.cons (.str b) .nil⟩
    . simp at hs
  |.slice s,t,fuel,cs,x,hs,h,hz=>by
    unfold shOk at hs;split at hs
    . rename_i e hu;simp only [fp] at hs;exact z90 hu (beqN hs.1) (zae.1 hs.2.1) (fun h hz=>zuo hs.2.2 h hz) h hz
    . simp at hs
  |.struct l,t,fuel,cs,x,hs,h,hz=>by
    unfold shOk at hs;split at hs
    . rename_i fs hu;simp only [fp] at hs;obtain ⟨xs,n,-,-,hl,hxl,hall⟩:=DataW.trod_struct hu h
      obtain ⟨ts,k1,k2⟩:=z7k (fs:=fs.toList) (o:=0) (pre:=cs) (fuel:=n) hs.2 (fun f hf=>by
        obtain ⟨i,hi,rfl⟩:=m5 hf;have hi':i<fs.size:=by simpa using hi
        have:=hall i fs[i] (lf hi');rw [fq (by omega)] at this
        exact ⟨_,by rw [Array.getElem_toList];exact this⟩) (by rw [hl,beqN hs.1];omega) hz
      rw [gu] at k2;have hlen:cs.take (Sh.szL l)=cs:=iu (by rw [hl,beqN hs.1];exact fy _);rw [hlen] at k2;exact ⟨.agg ts,⟨ts,rfl,k1⟩,k2⟩
    . simp at hs
  |.arr k n,t,fuel,cs,x,hs,h,hz=>by
    unfold shOk at hs;split at hs
    . rename_i m e hu;simp only [fp] at hs;obtain ⟨h1,h2,h3,h4⟩:=hs;split at h4
      . rename_i k' he;have hkk:k=k':=zAe h4;subst hkk;have hmn:=beqN h1;subst hmn;obtain ⟨xs,fu,rfl,hx1,hlen,hxl,hel⟩:=DataW.trod_array hu h;have hl:cs.length=m:=by rw [hlen];exact beqN h2
        have key:∀ i,i<m->∃ z,cs[i]?=some (.int k z)/\(Lit.int k z).wf=true:=by
          intro i hi;have h0:=hel i hi;rw [beqN h3,qr,fq (by omega)] at h0;obtain ⟨z,e1,e2,e3⟩:=DataW.trod_int he h0;refine ⟨z,?_,e3⟩;have:(cs.drop i)[0]?=((cs.drop i).take 1)[0]?:=by rw [List.getElem?_take_of_lt (by omega)]
          have e1':(cs.drop i).take 1=[.int k z]:=e1;rw [e1'] at this;simpa using this
        obtain ⟨l,hl2,hp⟩:=yfv (p:=fun i (z:Int)=>cs[i]?=some (.int k z)/\(Lit.int k z).wf=true) m key
        have hcl:cs=l.map (jo k):=by
          apply List.ext_getElem (by rw [hl,f5,hl2]);intro i h1 h2;have:=(hp i (by rw [hl2,<- hl];exact h1)).1;rw [fq h1] at this;rw [List.getElem_map];exact Option.some.inj this
        refine ⟨.agg (l.map (fm k)),⟨⟨l,hl2⟩,rfl,fun x hx=>?_⟩,?_⟩
        . obtain ⟨i,hi,rfl⟩:=m5 hx;exact (hp i hi).2
        . rw [hcl];exact z9t l
      . simp at h4
    . simp at hs
theorem z7k:∀ {l:List Sh} {fs:List Field} {o fuel:Nat} {pre:List Value},z91 P l fs o=true->(∀ f,f∈fs->∃ x,DataW.trod enc P W 0 (fun _=>true) true fuel f.type ((pre.drop f.offset).take (P.cellsOf f.type))=some x)->o+Sh.szL l<=pre.length->zv0 W pre->∃ ts,yna l ts/\RtL W ts ((pre.drop o).take (Sh.szL l))
  |[],[],o,fuel,pre,hs,h,hl,hz=>⟨[],rfl,by unfold Sh.szL;rw [ng];exact .nil⟩
  |[],_ :: _,o,fuel,pre,hs,h,hl,hz=>by simp [z91] at hs
  |_ :: _,[],o,fuel,pre,hs,h,hl,hz=>by simp [z91] at hs
  |s :: l,f :: fs,o,fuel,pre,hs,h,hl,hz=>by
    unfold z91 at hs;unfold Sh.szL at hl ⊢;simp only [fp] at hs;obtain ⟨x,hx⟩:=h f (by simp);rw [beqN hs.1,beqN hs.2.1] at hx;obtain ⟨tr,k1,k2⟩:=zuo hs.2.2.1 hx (hz.sub fun v hv=>List.mem_of_mem_drop (List.mem_of_mem_take hv));obtain ⟨ts,k3,k4⟩:=z7k (o:=o+s.sz) (pre:=pre) (fuel:=fuel) hs.2.2.2 (fun g hg=>h g (by simp [hg])) (by omega) hz;refine ⟨tr.cells++ts,⟨tr,ts,rfl,k1,k3⟩,?_⟩;have:=k2.append k4;rw [show List.take s.sz (List.drop o pre)++List.take (Sh.szL l) (List.drop (o+s.sz) pre)=List.take (s.sz+Sh.szL l) (List.drop o pre) by rw [List.take_add,l6]] at this;exact this
end
theorem zsl {r:Reach} {base:Nat} {u:gw} {a:Addr} {n c:Nat} (h:Cell.okWide P W r base u (.slice (some a) n c)):0<W.heap.size:=by
  have key:Cell.ok P W r base u (.slice (some a) n c)->0<W.heap.size:=fun h=>by
    unfold Cell.ok at h;split at h<;>first|contradiction | (exact h.elim)|skip
    rename_i hq;cases hq;obtain ⟨-,-,-,-,row,cells,hs,-⟩:=h;unfold World.shape? at hs;by_cases hb:0<W.heap.size
    . exact hb
    . rw [Array.getElem?_eq_none (by omega)] at hs;simp at hs
  unfold Cell.okWide at h;split at h<;>first|exact key h|contradiction
theorem ya2 {r:Reach} {base:Nat} {u:gw} {cs:Array Value} (h:Cell.okWide P W r base u (.agg cs)):False:=by
  unfold Cell.okWide at h;split at h<;>first|contradiction | (unfold Cell.ok at h;split at h<;>first|contradiction|exact h)
theorem zz3 {r:Reach} {base:Nat} {s:Sh} {t:gw} {v:Value} {d:DataW H} {ps:List MemPlace} (hs:shOk P s t=true) (hv:ru P W r base t v) (h:DataW.Trod enc P W 0 (fun _=>true) true t v d ps):∃ tr,conf s tr/\Rt W tr v:=by
  obtain ⟨fuel,h⟩:=h
  have one:(∀ fs,P.underlying t≠some (.struct fs))->(∀ n e,P.underlying t≠some (.array n e))->(∀ l,s≠.struct l)->(∀ k n,s≠.arr k n)->∃ tr,conf s tr/\Rt W tr v:=fun h1 h2 h3 h4=>by
    have hc:Cell.okWide P W r base t v:=by
      unfold ru at hv;split at hv
      . rename_i fs hu;exact absurd hu (h1 fs)
      . rename_i n e hu;exact absurd hu (h2 n e)
      . exact hv
    have hcs:v.cells.toList=[v]:=by
      cases v<;>first|rfl|exact (ya2 hc).elim
    rw [hcs] at h
    obtain ⟨tr,k1,k2⟩:=zuo hs h (fun x hx ⟨a,n,c,he⟩=>by
      simp only [ig] at hx;subst hx;subst he
      exact zsl hc)
    have ht:tr.cells=[tr]:=by
      cases s with
      |struct l=>exact absurd rfl (h3 l)
      |int k=>obtain ⟨n,rfl,_⟩:=k1;rfl
      |bool=>obtain ⟨n,rfl⟩:=k1;rfl
      |str=>obtain ⟨n,rfl,_⟩:=k1;rfl
      |slice e=>obtain ⟨l,rfl,_⟩:=k1;rfl
      |arr k n=>exact absurd rfl (h4 k n)
    rw [ht] at k2
    cases k2 with
    |cons a _=>exact ⟨tr,k1,a⟩
  cases s with
  |struct l =>
    have hu:∃ fs,P.underlying t=some (.struct fs):=by
      unfold shOk at hs;split at hs
      . rename_i fs hu;exact ⟨fs,hu⟩
      . simp at hs
    obtain ⟨fs,hu⟩:=hu;unfold ru at hv;rw [hu] at hv;obtain ⟨cs,rfl,-,ts,-,-,hall⟩:=hv
    obtain ⟨tr,k1,k2⟩:=zuo hs h (fun x hx ⟨a,n,c,he⟩=>by
      subst he;obtain ⟨i,hi,hq⟩:=m5 hx;have hi':i<cs.size:=by simpa [Value.cells] using hi
      obtain ⟨u,-,hu2⟩:=hall i _ (lf hi');have:cs[i]=.slice (some a) n c:=by simpa [Value.cells] using hq
      rw [this] at hu2
      exact zsl hu2)
    obtain ⟨ts,rfl,_⟩:=id k1;exact ⟨_,k1,.agg (by simpa [jk,Value.cells] using k2)⟩
  |int k =>
    have:∃ k',P.underlying t=some (.int k'):=by
      unfold shOk at hs;split at hs
      . rename_i k' hu;exact ⟨k',hu⟩
      . simp at hs
    obtain ⟨k',hu⟩:=this;exact one (fun fs hh=>by rw [hu] at hh;simp at hh) (fun n e hh=>by rw [hu] at hh;simp at hh) (fun l hh=>by simp at hh) (fun k n hh=>by simp at hh)
  |bool =>
    have:P.underlying t=some .bool:=by
      unfold shOk at hs;split at hs
      . rename_i hu;exact hu
      . simp at hs
    exact one (fun fs hh=>by rw [this] at hh;simp at hh) (fun n e hh=>by rw [this] at hh;simp at hh) (fun l hh=>by simp at hh) (fun k n hh=>by simp at hh)
  |str =>
    have:P.underlying t=some .string:=by
      unfold shOk at hs;split at hs
      . rename_i hu;exact hu
      . simp at hs
    exact one (fun fs hh=>by rw [this] at hh;simp at hh) (fun n e hh=>by rw [this] at hh;simp at hh) (fun l hh=>by simp at hh) (fun k n hh=>by simp at hh)
  |slice e =>
    have:∃ e,P.underlying t=some (.slice e):=by
      unfold shOk at hs;split at hs
      . rename_i e hu;exact ⟨e,hu⟩
      . simp at hs
    obtain ⟨e',hu⟩:=this;exact one (fun fs hh=>by rw [hu] at hh;simp at hh) (fun n e hh=>by rw [hu] at hh;simp at hh) (fun l hh=>by simp at hh) (fun k n hh=>by simp at hh)
  |arr k n =>
    have hu:∃ m e,P.underlying t=some (.array m e):=by
      unfold shOk at hs;split at hs
      . rename_i m e hu;exact ⟨m,e,hu⟩
      . simp at hs
    obtain ⟨m,e,hu⟩:=hu;unfold ru at hv;rw [hu] at hv;obtain ⟨cs,rfl,-⟩:=hv;have hnoslice:∀ tr:T,conf (.arr k n) tr->True:=fun _ _=>trivial;have hs0:=hs;unfold shOk at hs0;rw [hu] at hs0;simp only [fp] at hs0;obtain ⟨q1,q2,q3,q4⟩:=hs0;split at q4
    . rename_i k' he;obtain ⟨xs,fu,-,-,hlen,hxlen,hel⟩:=DataW.trod_array hu h
      have hz:zv0 W (Value.agg cs).cells.toList:=fun x hx ⟨a,n2,c,he2⟩=>by
        subst he2;obtain ⟨i,hi,hq⟩:=m5 hx;have hl:(Value.agg cs).cells.toList.length=n:=by rw [hlen];exact beqN q2
        have hmn:=beqN q1;have h0:=hel i (by omega);rw [beqN q3,qr] at h0
        cases hxi:xs[i]? with
        |none =>
          rw [hxi] at h0;have:=List.getElem?_eq_none_iff.1 hxi;omega
        |some z =>
          rw [hxi] at h0;obtain ⟨w,e1,-,-⟩:=DataW.trod_int he h0;have e2:((Value.agg cs).cells.toList.drop i)[0]?=(((Value.agg cs).cells.toList.drop i).take 1)[0]?:=by rw [List.getElem?_take_of_lt (by omega)]
          rw [e1,lm,kb,fq hi,hq] at e2;simp at e2
      obtain ⟨tr,k1,k2⟩:=zuo hs h hz;obtain ⟨a,rfl,_⟩:=id k1;exact ⟨_,k1,.agg (by simpa [jk,Value.cells] using k2)⟩
    . simp at q4
end
def zu1 (w:Nat):Nat:=if w=0 then 0 else kw w+1
theorem zi0 {n:Nat} (h:2<=n):kw n=kw (n / 2)+1:=by
  rw [Nat.log2_def,zAc h]
theorem yhy {n:Nat} (h:256<=n):zu1 n=8+zu1 (n / 256):=by
  unfold zu1;rw [zAd (by omega),zAd (by omega)];rw [zi0 (n:=n) (by omega),zi0 (n:=n / 2) (by omega),zi0 (n:=n / 2 / 2) (by omega),zi0 (n:=n / 2 / 2 / 2) (by omega),zi0 (n:=n / 2 / 2 / 2 / 2) (by omega),zi0 (n:=n / 2 / 2 / 2 / 2 / 2) (by omega),zi0 (n:=n / 2 / 2 / 2 / 2 / 2 / 2) (by omega),zi0 (n:=n / 2 / 2 / 2 / 2 / 2 / 2 / 2) (by omega)];rw [show n / 2 / 2 / 2 / 2 / 2 / 2 / 2 / 2=n / 256 by omega];omega
theorem z0a {n:Nat} (h:n<65536):zu1 n<=16:=by
  unfold zu1;split
  . omega
  . have:kw n<16:=(Nat.log2_lt (by omega)).2 h;omega
def ypf (b:ByteArray):Bool:=(List.range 256).all fun k=>if h:k<b.size then gd b[k].toNat (zu1 k) else true
theorem ybt {b:ByteArray} (hb:ypf b=true) {k:Nat} (hk:k<256) (h:k<b.size):b[k].toNat=zu1 k:=by
  have:=List.all_eq_true.1 hb k (List.mem_range.2 hk);rw [dif_pos h] at this;exact ft this
theorem z6i (n:Int) (h:-9223372036854775808<=n/\n<=9223372036854775807):qj n=n:=by unfold qj;omega
theorem wrapL {n:Nat} (h:n<=64):qj (qj (n:Int))=n:=by rw [z6i (n:Int) (by omega),z6i _ (by omega)]
set_option maxRecDepth 100000 in
set_option maxHeartbeats 2000000 in
theorem ya3 (n:Nat) (W:World) (hn:n<65536):Calls Try.prog 97 #[.int .u16 n] W fun e W'=>e=.returned (.int .i64 (zu1 n))/\W'=W:=by
  go_enter Try.func97,Try.ntmps97
  by_cases h:n<256
  . go_wp2
    go_ret
    refine ⟨?_,rfl⟩;clear W;refine congrArg (fun z=>Ending.returned (.int .i64 z)) ?_;rw [ybt (by decide +kernel) h];exact wrapL (Nat.le_trans (z0a hn) (by decide))
  . go_wp2
    go_ret
    refine ⟨?_,rfl⟩;clear W;refine congrArg (fun z=>Ending.returned (.int .i64 z)) ?_;have hk:n / 256<256:=by omega
    have h1:=z0a (n:=n / 256) (by omega);rw [yhy (by omega),ybt (by decide +kernel) hk,z6i ((zu1 (n / 256):Nat):Int) (by omega),z6i _ (by omega)];rfl
set_option maxRecDepth 100000 in
set_option maxHeartbeats 2000000 in
theorem yf2 (n z:Nat) (W:World) (hn:n<65536) (h0:n≠0) (hz:z=15 - kw n):Calls Try.prog 94 #[.int .u16 n] W fun e W'=>e=.returned (.int .i64 (z:Int))/\W'=W:=by
  have h16:=z0a hn;have hl:zu1 n=kw n+1:=by unfold zu1;rw [zAd h0]
  go_enter Try.func94,Try.ntmps94
  go_wp2_with (refine (ya3 _ _ hn).mono ?_;rintro e w' ⟨rfl,rfl⟩)
  go_ret
  refine ⟨?_,rfl⟩;refine congrArg (fun z=>Ending.returned (.int .i64 z)) ?_;omega
theorem ye4 {v:Value} {m:Nat} (h:i64N v=some m):v=.int .i64 (m:Nat)/\m<9223372036854775808:=by
  unfold i64N at h;split at h
  . rename_i k m';rw [zcn] at h;split at h
    . rename_i h1;simp only [fp] at h1
      have hk:k=.i64:=by
        have:=ft h1.1;cases k<;>first|rfl | (exact absurd this (by decide))
      subst hk;cases h;exact ⟨rfl,zae.1 h1.2⟩
    . cases h
  . cases h
theorem zog:∀ {n:Nat} {cs:List Value} {l:List Nat},zgy n cs=some l->l.length=n/\(∀ j,(h:j<l.length)->l[j]<9223372036854775808)/\∀ j,(h:j<l.length)->cs[j]?=some (.int .i64 (l[j]:Nat))
  |0,cs,l,h=>by
    cases cs<;>(simp only [zgy,fk] at h;subst h;exact ⟨rfl,fun j h=>absurd h (mn _),fun j h=>absurd h (mn _)⟩)
  |n+1,[],l,h=>by simp [zgy] at h
  |n+1,v :: cs,l,h=>by
    rw [zgy] at h
    cases hv:i64N v with
    |none=>rw [hv] at h;cases h
    |some m =>
      cases hr:zgy n cs with
      |none=>rw [hv,hr] at h;cases h
      |some r =>
        rw [hv,hr] at h;cases h;obtain ⟨rfl,hm⟩:=ye4 hv;obtain ⟨a,b,c⟩:=zog hr;refine ⟨by rw [gq,a],fun j hj=>?_,fun j hj=>?_⟩
        . cases j with
          |zero=>exact hm
          |succ j=>exact b j (by simpa using hj)
        . cases j with
          |zero=>rfl
          |succ j=>simpa using c j (by simpa using hj)
def ygj (W:World) (v:Value) (l:List Nat):Prop:=∃ b o:Nat,v=.pointer (some ⟨b,o,none⟩)/\(∀ j,(h:j<l.length)->l[j]<9223372036854775808)/\∀ j,(h:j<l.length)->W.cell? ⟨b,o+j,none⟩=some (.int .i64 (l[j]:Nat))
theorem zma {n:Nat} {s s':CS} {v:Value} {l:List Nat} (h:zkx n s v=some (l,s')):Can s s'/\s'.obj=s.obj/\s'.n=s.n:=by
  unfold zkx at h;split at h
  . split at h
    . rename_i hr;split at h
      . simp only [fk,fw] at h;obtain ⟨rfl,rfl⟩:=h;refine ⟨zod hr,?_,?_⟩<;>(rw [(zdh hr).2])
      . cases h
    . cases h
  . cases h
theorem zur {n:Nat} {s s':CS} {v v':Value} {l:List Nat} {σ:Sg} {V:Nat->Prop} {W:World} (h:zkx n s v=some (l,s')) (hv:VR σ v v') (hr:Rel σ V s W) (hV:zco V s'):l.length=n/\ygj W v' l:=by
  unfold zkx at h;split at h
  . rename_i a;split at h
    . rename_i cs s1 hrr;split at h
      . rename_i l1 hl;simp only [fk,fw] at h;obtain ⟨rfl,rfl⟩:=h;obtain ⟨b,o,z,h1,rfl⟩:=hv.ptr;have hrow:=zp7 hrr hr hV h1;obtain ⟨a1,a2,a3⟩:=zog hl;refine ⟨a1,b,o+a.off,rfl,a2,fun j hj=>?_⟩;have:=a3 j hj;rw [lm] at this;obtain ⟨u',k1,k2⟩:=hrow.2.2.2 _ _ this;rw [k2.int] at k1;rw [Nat.add_assoc];exact k1
      . cases h
    . cases h
  . cases h
theorem yhe {caps:List Value} {s s':CS} {k:List Nat} (h:zki.key caps s=some (k,s')):Can s s'/\s'.obj=s.obj/\s'.n=s.n:=by
  unfold zki at h;dsimp only at h;split at h
  . split at h
    . rename_i h1;split at h
      . rename_i h2;simp only [fk,fw] at h;obtain ⟨rfl,rfl⟩:=h;obtain ⟨c1,o1,n1⟩:=zma h1;obtain ⟨c2,o2,n2⟩:=zma h2;exact ⟨c1.trans c2,o2.trans o1,n2.trans n1⟩
      . cases h
    . cases h
  . cases h
theorem z7l {caps':Array Value} {k:List Nat} {W:World} (h:Now zki caps' k W):∃ p q l m,caps'=#[p,q]/\k=l++m/\l.length=10/\m.length=10/\ygj W p l/\ygj W q m:=by
  obtain ⟨σ,V,s,s1,caps,h1,h2,h3,h4,h5⟩:=h;unfold zki at h5;dsimp only at h5;split at h5
  . rename_i p q;split at h5
    . rename_i l s2 hp;split at h5
      . rename_i m s3 hq;simp only [fk,fw] at h5;obtain ⟨rfl,rfl⟩:=h5;obtain ⟨xs⟩:=caps'
        match xs,h1 with
        |[p',q'],h1 =>
          obtain ⟨v1,v2,_⟩:=h1;obtain ⟨c2,o2,n2⟩:=zma hq;obtain ⟨c1,o1,n1⟩:=zma hp;obtain ⟨a1,a2⟩:=zur hp v1 h2 (h3.back c2);obtain ⟨b1,b2⟩:=zur hq v2 (h2.state o1 n1) h3;exact ⟨p',q',l,m,rfl,rfl,a1,b1,a2,b2⟩
      . cases h5
    . cases h5
  . cases h5
/-! the bits of a word -/
theorem ya5 (f:Nat):zvw f 0=[]:=by cases f<;>rfl
theorem ya6 {f w:Nat} (h:w≠0):zvw (f+1) w=(15 - kw w) :: zvw f (w - 2 ^ kw w):=by
  rw [zvw,zi8 h,z1h];rfl
theorem ybi {f w:Nat} (h:w≠0) (hw:w<2 ^ f):w - 2 ^ kw w<2 ^ (f - 1)/\w - 2 ^ kw w<w/\1<=f:=by
  have h1:kw w<f:=(Nat.log2_lt h).2 hw;have h2:w<2 ^ (kw w+1):=Nat.lt_log2_self;have h3:2 ^ kw w<=w:=qk h;have h4:2 ^ kw w<=2 ^ (f - 1):=mb (by decide) (by omega);have h5:0<2 ^ kw w:=Nat.two_pow_pos _;rw [Nat.pow_succ] at h2;exact ⟨by omega,by omega,by omega⟩
theorem yaf:∀ {i:Nat} {l m:List Nat},(h:i<l.length)->(h2:i<m.length)->∀ s,zpb (s+i) (l.drop i) (m.drop i)=(zvw 17 ((l[i] - (l[i] &&& m[i])) % 65536)).map (16*(s+i)+·)++zpb (s+i+1) (l.drop (i+1)) (m.drop (i+1)):=by
  intro i l m h h2 s;rw [ks h,ks h2,zpb];rfl
theorem yij {w:Nat} (x y:BitVec w):x &&& ~~~y=x - (x &&& y):=by
  have h1:(x &&& ~~~y) &&& (x &&& y)=0#w:=by
    apply BitVec.eq_of_getLsbD_eq;intro i hi;simp only [BitVec.getLsbD_and,BitVec.getLsbD_not,hi,decide_true,ki,BitVec.getLsbD_zero];cases x.getLsbD i<;>cases y.getLsbD i<;>rfl
  have h2:(x &&& ~~~y) ||| (x &&& y)=x:=by
    apply BitVec.eq_of_getLsbD_eq;intro i hi;simp only [BitVec.getLsbD_or,BitVec.getLsbD_and,BitVec.getLsbD_not,hi,decide_true,ki];cases x.getLsbD i<;>cases y.getLsbD i<;>rfl
  have h3:=BitVec.add_eq_or_of_and_eq_zero _ _ h1;rw [h2] at h3;exact BitVec.eq_sub_iff_add_eq.2 h3
theorem zpk (w:Nat) {a b:Nat} (ha:a<2 ^ w) (hb:b<2 ^ w):a &&& (2 ^ w - 1 - b)=a - (a &&& b):=by
  have h:=congrArg BitVec.toNat (yij (BitVec.ofNat w a) (BitVec.ofNat w b));rw [ov,BitVec.toNat_not,py,py,nv ha,nv hb,BitVec.toNat_sub_of_le,ov,py,py,nv ha,nv hb] at h
  . exact h
  . rw [BitVec.le_def,ov];exact Nat.and_le_left
theorem zyy {a b:Nat} (ha:a<9223372036854775808) (hb:b<9223372036854775808):bits .andNot .i64 (a:Int) (b:Int)=((a - (a &&& b):Nat):Int):=by
  have h:=zpk 64 (a:=a) (b:=b) (by omega) (by omega);show fo.wrap ((je 64 (a:Int) &&& ~~~je 64 (b:Int)).toNat:Int)=_;rw [ov,BitVec.toNat_not,lz,lz];rw [show ((a:Int) % ((2 ^ 64:Nat):Int)).toNat=a by omega,show ((b:Int) % ((2 ^ 64:Nat):Int)).toNat=b by omega,h];have hc:a - (a &&& b)<9223372036854775808:=by omega
  generalize a - (a &&& b)=c at *;simp [IntKind.wrap,IntKind.bits,IntKind.signed];split<;>omega
section
open Go Go.RowKit Go.Shelf
attribute [local go_sem] Oper.semAt_some
theorem yn1 (n:Nat):IntKind.u16.wrap (n:Int)=((n % 65536:Nat):Int):=by
  rw [IntKind.wrap_u16];omega
theorem yfu {w k:Nat} (hw:w<65536) (h0:w≠0) (hk:k=kw w):bits .andNot .u16 (w:Int) (IntKind.u16.wrap (2 ^ k))=((w - 2 ^ k:Nat):Int):=by
  subst hk;have h1:=qk h0;have h2:(2:Int) ^ kw w=((2 ^ kw w:Nat):Int):=by rw [Int.natCast_pow];rfl
  rw [h2,yn1,nv (by omega),u16_andNot_nat _ _ hw (by omega)];rw [show 65535 - 2 ^ kw w=2 ^ 16 - 1 - 2 ^ kw w from rfl,zpk 16 hw (by omega),show w &&& 2 ^ kw w=2 ^ kw w from ?_];apply Nat.eq_of_testBit_eq;intro i;rw [Nat.testBit_and,Nat.testBit_two_pow];by_cases h:kw w=i
  . rw [<- h,Nat.testBit_log2 h0];simp
  . simp [h]
set_option maxRecDepth 100000 in
set_option maxHeartbeats 4000000 in
theorem ydq (caps':Array Value) (k:List Nat) (kd l:Nat) (J:List (Nat×Obj)->Nat->World->Prop) (Jx:World->Prop) (W:World)
    (hN:∀ K j W1,J K j W1->Now zki caps' k W1)
    (hY:∀ kd' K j x W1,(zki.xs k)[j]?=some x->J K j W1->YieldAt mo kd' Try.prog l x.toArray W1 fun e W'=>(e=.returned (.bool true)/\J K (j+1) W')\/(e=.returned (.bool false)/\Jx W'))
    (hB:∀ K j W1 W2,J K j W1->Below W1.heap.size W1 W2->J K j W2) (h0:J [] 0 W):CallsIn mo kd Try.prog 93 (#[.func (.yield l) #[] #[]]++caps') W fun e W'=>(∃ v,e=.returned v)/\((∃ K,J K (zki.xs k).length W')\/Jx W'):=by
  obtain ⟨p,q,L,M,rfl,rfl,hL,hM,hp,hq⟩:=z7l (hN [] 0 W h0);obtain ⟨b1,o1,rfl,hLm,hp⟩:=hp;obtain ⟨b2,o2,rfl,hMm,hq⟩:=hq
  have hcells:∀ j W1,J [] j W1->(∀ i,(h:i<L.length)->W1.cell? ⟨b1,o1+i,none⟩=some (.int .i64 (L[i]:Nat)))/\(∀ i,(h:i<M.length)->W1.cell? ⟨b2,o2+i,none⟩=some (.int .i64 (M[i]:Nat))):=by
    intro j W1 hj;obtain ⟨p,q,L',M',e1,e2,hL',hM',hp',hq'⟩:=z7l (hN [] j W1 hj);obtain ⟨rfl,rfl⟩:=List.append_inj e2 (by rw [hL,hL']);obtain ⟨b1',o1',rfl,_,hp'⟩:=hp';obtain ⟨b2',o2',rfl,_,hq'⟩:=hq';simp only [Array.mk.injEq,o7,Value.pointer.injEq,fk,Addr.mk.injEq,and_true] at e1;obtain ⟨⟨rfl,rfl⟩,rfl,rfl⟩:=e1;exact ⟨hp',hq'⟩
  show CallsIn mo kd Try.prog 93 #[.func (.yield l) #[] #[],.pointer (some ⟨b1,o1,none⟩),.pointer (some ⟨b2,o2,none⟩)] W _;obtain ⟨X,hX⟩:∃ X,X=zki.xs (L++M):=⟨_,rfl⟩
  have HX:X=(zpb 0 L M).map fun n=>[.int .i64 (.ofNat n)]:=by
    rw [hX];show (zpb 0 ((L++M).take 10) ((L++M).drop 10)).map _=_;rw [kg (by omega),iu (by omega),qs (by omega),i7 (by omega),gn]
  rw [<- hX] at hY ⊢;refine callsIn_of_wp Try.func93 rfl trivial ?_ rfl;simp only [Try.ntmps93,List.size_toArray,gq,jl,gc,i9,Array.replicate_succ,Array.replicate_zero,List.push_toArray,List.append_toArray,gn,ib]
  gi_wp2
  gi_loopw [7] (fun v wr=>∃ i j:Nat,j<=X.length/\i<=10/\v=.int .i64 i/\J [] j wr/\X.drop j=(zpb i (L.drop i) (M.drop i)).map fun n=>[.int .i64 (.ofNat n)])
    (fun v _=>10 - (intOf v).toNat)
  case atStart=>exact ⟨0,0,iz _,iz _,rfl,h0,by rw [gu,gu,gu];exact HX⟩
  case round =>
    obtain ⟨i,j,hjX,hi,rfl,hJ,hd⟩:=hrel;by_cases hlt:i<10
    . obtain ⟨c1,c2⟩:=hcells j _ hJ;have h1:=c1 i (by omega);have h2:=c2 i (by omega);have a1:=hLm i (by omega);have a2:=hMm i (by omega);have hod:=yaf (i:=i) (l:=L) (m:=M) (by omega) (by omega) 0;rw [jc] at hod;have han:=zyy a1 a2;have hle:L[i] - (L[i] &&& M[i])<9223372036854775808:=by omega
      gi_wp2
      gi_region
      rw [yn1]
      gi_wp2
      have hJ':=hB [] j wr wr.drew hJ ((Below.refl wr.heap.size wr).drew);clear hJ hcells c1 c2 h1 h2;obtain ⟨w0,hw0⟩:∃ w0,w0=(L[i] - (L[i] &&& M[i])) % 65536:=⟨_,rfl⟩;rw [<- hw0] at hod ⊢;have hw1:w0<65536:=by omega
      rw [hod] at hd;clear hod han hle hw0 a1 a2;obtain ⟨R,hR⟩:∃ R,R=zpb (i+1) (L.drop (i+1)) (M.drop (i+1)):=⟨_,rfl⟩;rw [<- hR] at hd
      gi_loopw [5] (fun v wr=>∃ w f j:Nat,j<=X.length/\v=.int .u16 w/\w<2 ^ f/\f<=16/\J [] j wr/\X.drop j=((zvw (f+1) w).map (fun x=>16*i+x)++R).map fun n=>[.int .i64 (.ofNat n)])
        (fun v _=>(intOf v).toNat)
      case atStart=>exact ⟨w0,16,j,hjX,rfl,hw1,fy _,hJ',hd⟩
      case round =>
        obtain ⟨w,f,j,hjX,rfl,hw,hf,hJ,hd⟩:=hrel;have hw2:w<65536:=Nat.lt_of_lt_of_le hw (mb (by decide) hf);by_cases h0:w=0
        . subst h0;rw [ya5,pk,gn,hR] at hd
          gi_wp2
          go_roundw
          case rel=>exact ⟨i+1,j,hjX,by omega,by go_num,hJ,hd⟩
          case measure=>simp [intOf];omega
        . obtain ⟨q1,q2,q3⟩:=ybi h0 hw;obtain ⟨z,hz⟩:∃ z,z=15 - kw w:=⟨_,rfl⟩;have hz15:z<=15:=by omega
          have hlg:kw w<=15:=by
            have:=(Nat.log2_lt h0).2 (show w<2 ^ 16 by omega);omega
          obtain ⟨w2,hw2e⟩:∃ w2,w2=w - 2 ^ kw w:=⟨_,rfl⟩;rw [ya6 h0,<- hz,<- hw2e,jb,ib,jb] at hd
          have hjl:j<X.length:=by
            have:=congrArg List.length hd;simp at this;omega
          rw [ks hjl] at hd;obtain ⟨hd1,hd2⟩:=List.cons.inj hd;have hx:X[j]?=some [.int .i64 (.ofNat (16*i+z))]:=by rw [fq hjl,hd1]
          obtain ⟨fn,tmps,assign,body,hy,hR1⟩:=hY (kd - 1) [] j _ wr hx hJ;have hcall:=yf2 w z wr hw2 h0 hz;have hcl:=yfu (k:=15 - z) hw2 h0 (by omega);rw [show 15 - z=kw w by omega,<- hw2e,show kw w=15 - z by omega] at hcl
          have hpw:2 ^ (15 - z)<=w/\2 ^ (15 - z)<65536:=by
            have e:15 - z=kw w:=by omega
            rw [e];exact ⟨qk h0,Nat.lt_of_le_of_lt (qk h0) hw2⟩
          rw [<- hw2e] at q1 q2;clear hz hw2e hlg;rw [show qy (16*i+z)=16*(i:Int)+(z:Int) from by simp] at hy;clear hd
          gi_wp2_with (refine ⟨trivial,fun hq=>absurd hq (by simp [mo]),(callsIn_wide.2 hcall).mono ?_⟩;rintro e w' ⟨rfl,rfl⟩)
          refine ⟨fun hq=>absurd hq (by simp [mo]),hR1.mono ?_⟩;rintro e W3 (⟨rfl,hJ3⟩|⟨rfl,hJx3⟩)
          . gi_wp2
            go_roundw
            case rel =>
              exact ⟨w2,f - 1,j+1,by omega,rfl,q1,by omega,hJ3,by rw [hd2,Nat.sub_add_cancel q3]⟩
            case measure =>
              show (w2:Int).toNat<(w:Int).toNat
              omega
          . gi_wp2
            refine bodyPost_ret (results_none rfl _ _ _) rfl ?_;exact ⟨⟨_,rfl⟩,.inr hJx3⟩
    . obtain rfl:i=10:=by omega
      gi_wp2
      go_end0
      rw [i7 (show L.length<=10 by omega)] at hd
      have hjX2:X.length<=j:=by
        have:=congrArg List.length hd;simp [zpb] at this;omega
      obtain rfl:j=X.length:=Nat.le_antisymm hjX hjX2;exact ⟨⟨_,rfl⟩,.inl ⟨_,hJ⟩⟩
theorem ymq:ItOk Try.prog 93 zki where
  can:=fun caps s k s' h _=>yhe h
  plain:=fun k x hx σ=>by
    obtain ⟨n,_,rfl⟩:=jv.1 hx;exact ⟨qa _ _,trivial⟩
  enter:=enters_of Try.func93 (by kernel_rfl) rfl
  runs:=fun caps' k kd l J Jx W h1 h2 _ _ _ h4 h5=>ydq caps' k kd l J Jx W h1 h4 h2 h5
end
theorem zuv:∀ {n:Nat} {cs:List Value} {L:List Nat},zky n cs=some L->L.length=10*n/\∀ i,i<n->zgy 10 (cs.drop (23*i+1))=some (ze3 L i)
  |0,cs,L,h=>by
    simp only [zky,fk] at h;subst h;exact ⟨rfl,fun i hi=>absurd hi (mn _)⟩
  |n+1,cs,L,h=>by
    rw [zky] at h
    cases hl:zgy 10 (cs.drop 1) with
    |none=>rw [hl] at h;cases h
    |some l =>
      cases hr:zky n (cs.drop 23) with
      |none=>rw [hl,hr] at h;cases h
      |some r =>
        rw [hl,hr] at h;simp only [fk] at h;subst h;obtain ⟨h1,h2⟩:=zuv hr;have h3:=(zog hl).1;refine ⟨by rw [gb,h1,h3];omega,fun i hi=>?_⟩
        cases i with
        |zero =>
          rw [Nat.mul_zero,jc,hl];unfold ze3;rw [Nat.mul_zero,gu,<- h3,List.take_left]
        |succ i =>
          have:=h2 i (by omega);rw [l6] at this;rw [show 23*(i+1)+1=23+(23*i+1) by omega,this];unfold ze3;rw [mu,i7 (l:=l) (by omega),gn,h3,show 10*(i+1) - 10=10*i by omega]
def ynq (W:World) (p:Option Addr) (n:Nat) (L:List Nat):Prop:=0<n->∃ b o,p=some ⟨b,o,none⟩/\∀ i,i<n->(ze3 L i).length=10/\∀ j,(h:j<(ze3 L i).length)->W.cell? ⟨b,o+23*i+1+j,none⟩=some (.int .i64 ((ze3 L i)[j]:Nat))
theorem zwy {s s':CS} {v:Value} {l:List Nat} (h:zr1 s v=some (l,s')):Can s s'/\s'.obj=s.obj/\s'.n=s.n:=by
  unfold zr1 at h;split at h
  . cases h;exact ⟨Can.refl _,rfl,rfl⟩
  . split at h
    . rename_i hr;split at h
      . obtain ⟨_,h⟩:=zem h;simp only [fk,fw] at h;obtain ⟨rfl,rfl⟩:=h;refine ⟨zod hr,?_,?_⟩<;>(rw [(zdh hr).2])
      . cases h
    . cases h
  . cases h
theorem z9y {s s':CS} {v v':Value} {k:List Nat} {σ:Sg} {V:Nat->Prop} {W:World} (h:zr1 s v=some (k,s')) (hv:VR σ v v') (hr:Rel σ V s W) (hV:zco V s'):∃ n L p c,k=n :: L/\n<1000000000/\v'=.slice p n c/\ynq W p n L:=by
  unfold zr1 at h;split at h
  . rename_i p c;simp only [fk,fw] at h;obtain ⟨rfl,rfl⟩:=h
    cases p with
    |none =>
      obtain ⟨_,_,rfl⟩:=hv.out;exact ⟨0,[],_,_,rfl,by decide,rfl,fun h=>absurd h (Nat.lt_irrefl _)⟩
    |some a =>
      obtain ⟨b,o,z,h1,a',c',rfl,_⟩:=hv.out;exact ⟨0,[],_,_,rfl,by decide,rfl,fun h=>absurd h (Nat.lt_irrefl _)⟩
  . rename_i a n c;split at h
    . rename_i cs s1 hrr;split at h
      . rename_i l hl;obtain ⟨hn,h⟩:=zem h;simp only [fk,fw] at h;obtain ⟨rfl,rfl⟩:=h;obtain ⟨b,o,z,h1,a',c',rfl,k1,k2,k3,k4,_⟩:=hv.out;have hrow:=zp7 hrr hr hV h1;have ha:=k4 (by omega);subst ha;refine ⟨n+1,l,_,c',rfl,zae.1 hn,rfl,fun _=>⟨b,o+a.off,rfl,fun i hi=>?_⟩⟩;have h3:=(zuv hl).2 i hi;obtain ⟨a1,a2,a3⟩:=zog h3;refine ⟨a1,fun j hj=>?_⟩;have:=a3 j hj;rw [l6,lm] at this;obtain ⟨u',q1,q2⟩:=hrow.2.2.2 _ _ this;rw [q2.int] at q1;rw [show o+a.off+23*i+1+j=o+(a.off+(23*i+1)+j) by omega];exact q1
      . cases h
    . cases h
  . cases h
theorem yd7 {caps:List Value} {s s':CS} {k:List Nat} (h:zha.key caps s=some (k,s')):Can s s'/\s'.obj=s.obj/\s'.n=s.n:=by
  unfold zha at h;dsimp only at h;split at h
  . split at h
    . rename_i hr;split at h
      . obtain ⟨c2,o2,n2⟩:=zwy h;have e:=(zdh hr).2;exact ⟨(zod hr).trans c2,by rw [o2,e],by rw [n2,e]⟩
      . cases h
    . cases h
  . cases h
theorem z2i {caps':Array Value} {k:List Nat} {W:World} (h:Now zha caps' k W):∃ bt ot n L p c,caps'=#[.pointer (some ⟨bt,ot,none⟩)]/\k=n :: L/\n<1000000000/\W.cell? ⟨bt,ot,none⟩=some (.slice p n c)/\ynq W p n L:=by
  obtain ⟨σ,V,s,s1,caps,h1,h2,h3,h4,h5⟩:=h;unfold zha at h5;dsimp only at h5;split at h5
  . rename_i a;split at h5
    . rename_i cs s2 hrr;split at h5
      . rename_i v rest hd;obtain ⟨xs⟩:=caps'
        match xs,h1 with
        |[p'],h1 =>
          obtain ⟨v1,_⟩:=h1;obtain ⟨b,o,z,q1,rfl⟩:=v1.ptr;obtain ⟨c2,o2,n2⟩:=zwy h5;have hrow:=zp7 hrr h2 (h3.back c2) q1;have e:=(zdh hrr).2
          have hv:cs[a.off]?=some v:=by
            have:=lm (xs:=cs) (i:=a.off) (j:=0);rw [hd] at this;simpa using this.symm
          obtain ⟨u',w1,w2⟩:=hrow.2.2.2 _ _ hv;obtain ⟨n,L,p,c,rfl,k2,rfl,k4⟩:=z9y h5 w2 (h2.state (by rw [e]) (by rw [e])) h3;exact ⟨b,o+a.off,n,L,p,c,rfl,rfl,k2,w1,k4⟩
      . cases h5
    . cases h5
  . cases h5
/-! what the iterator yields, by its place -/
theorem sN_t:∀ {l m:List Nat},l=m->zh8 l m=true
  |[],_,h=>by subst h;rfl
  |a :: l,_,h=>by subst h;rw [zh8,sN_t rfl,Nat.beq_refl];rfl
theorem sN_f {l m:List Nat} (h:l≠m):zh8 l m=false:=by
  cases hb:zh8 l m with
  |false=>rfl
  |true=>exact absurd (zt7 hb).symm h
theorem zi6:∀ n,(zi7 n).length=n
  |0=>rfl
  |n+1=>by rw [zi7,gb,zi6 n];rfl
theorem z3g:∀ {n i:Nat},i<n->(zi7 n)[i]?=some (zwd 1 i 0)
  |0,i,h=>absurd h (mn _)
  |n+1,i,h=>by
    rw [zi7];by_cases hi:i<n
    . rw [gr (by rw [zi6];exact hi),z3g hi]
    . have:i=n:=by omega
      subst this;rw [iy (by rw [zi6];exact fy _),zi6,Nat.sub_self];rfl
theorem z12 (l:List Nat) (k:Nat):∀ {i j:Nat},i<=j->∃ r,zje l k j=zje l k i++r
  |i,0,h=>⟨[],by rw [show i=0 by omega];rfl⟩
  |i,j+1,h=>by
    by_cases hi:i=j+1
    . exact ⟨[],by rw [hi,ic]⟩
    . obtain ⟨r,hr⟩:=z12 l k (i:=i) (j:=j) (by omega);exact ⟨_,by rw [zje,hr,gt]⟩
theorem ygc (l:List Nat):∀ {i j:Nat},i<=j->∃ r,zcz l j=zcz l i++r
  |i,0,h=>⟨[],by rw [show i=0 by omega];rfl⟩
  |i,j+1,h=>by
    by_cases hi:i=j+1
    . exact ⟨[],by rw [hi,ic]⟩
    . obtain ⟨r,hr⟩:=ygc l (i:=i) (j:=j) (by omega);exact ⟨_,by rw [zcz,hr,gt]⟩
noncomputable def posF (n:Nat) (l:List Nat) (k i:Nat):Nat:=n+((zcz l k).length+(zje l k i).length)
theorem ymj {n k i:Nat} {l:List Nat} (hk:k<n) (hi:i<k) (he:ze3 l i=ze3 l k) (z:Nat) (hz:z<2):(zi7 n++zcz l n)[posF n l k i+z]?=some (zwd (2+z) i k):=by
  obtain ⟨r1,h1⟩:=ygc l (i:=k+1) (j:=n) (by omega);obtain ⟨r2,h2⟩:=z12 l k (i:=i+1) (j:=k) (by omega);rw [h1,zcz,h2,zje,sN_t he,zbg];unfold posF;rw [iy (by rw [zi6];omega),zi6,show n+((zcz l k).length+(zje l k i).length)+z - n=(zcz l k).length+((zje l k i).length+z) by omega];rw [gt,iy (by omega),Nat.add_sub_cancel_left,gt,gt,iy (by omega),Nat.add_sub_cancel_left]
  match z,hz with
  |0,_=>rfl
  |1,_=>rfl
theorem yhb {n k i:Nat} {l:List Nat} (he:ze3 l i=ze3 l k):posF n l k (i+1)=posF n l k i+2:=by
  unfold posF;rw [zje,sN_t he,zbg,gb];rfl
theorem yha {n k i:Nat} {l:List Nat} (he:ze3 l i≠ze3 l k):posF n l k (i+1)=posF n l k i:=by
  unfold posF;rw [zje,sN_f he,z1h,ic]
theorem yol {n k:Nat} {l:List Nat}:posF n l (k+1) 0=posF n l k k:=by
  unfold posF;rw [zcz,gb];rfl
theorem ymk {n:Nat} {l:List Nat}:posF n l n 0=(zi7 n++zcz l n).length:=by
  unfold posF;rw [gb,zi6];rfl
section
open Go Go.RowKit Go.Shelf
attribute [local go_sem] Oper.semAt_some
def nV (l:List Nat):List Value:=l.map fun x=>.int .i64 (x:Nat)
theorem z5a:∀ {n:Nat} {l:List Nat},l.length=n->zeu (gi n (.int .i64)) (nV l)=true
  |0,[],_=>rfl
  |n+1,x :: l,h=>by
    rw [ji,nV,jb,zeu];have:=z5a (n:=n) (l:=l) (by simpa using h);rw [nV] at this;rw [this];rfl
  |0,_ :: _,h=>by simp at h
  |_+1,[],h=>by simp at h
theorem yox:∀ {l m:List Nat},l.length=m.length->eqVs (nV l) (nV m)=decide (l=m)
  |[],[],_=>by simp [nV,eqVs]
  |x :: l,y :: m,h=>by
    have ih:=yox (l:=l) (m:=m) (by simpa using h);rw [nV,nV] at ih;rw [nV,nV,jb,jb,eqVs,ih];by_cases hx:x=y
    . subst hx;simp [znw]
    . have:znw (.int .i64 (x:Nat)) (.int .i64 (y:Nat))=false:=by simp only [znw];rw [beq_eq_false_iff_ne];omega
      rw [this];simp [hx]
  |[],_ :: _,h=>by simp at h
  |_ :: _,[],h=>by simp at h
theorem ypr {P:gz} {t:gw} {sh:List CK} {xs ys:List Value} {r:Bool} (hs:zg7 P 10000 t=some (true,sh)) (hx:zeu sh xs=true) (hy:zeu sh ys=true) (hr:eqVs xs ys=r) (w:World):(lh 10000 t (.agg xs.toArray) (.agg ys.toArray)).run P w=.ok r w :=
  z3b (by rw [<- hr];exact yld 10000 hs hx hy) w
theorem ye5 {l m:List Nat} (hl:l.length=10) (hm:m.length=10) {r:Bool} (hr:decide (l=m)=r) (w:World):(lh 10000 43 (.agg (nV l).toArray) (.agg (nV m).toArray)).run Try.prog w=.ok r w :=
  ypr (sh:=gi 10 (.int .i64)) (by kernel_rfl) (z5a hl) (z5a hm) ((yox (by rw [hl,hm])).trans hr) w
theorem yfx {W:World} {b o:Nat} {l:List Nat} (hl:l.length=10) (h:∀ j,(hj:j<l.length)->W.cell? ⟨b,o+j,none⟩=some (.int .i64 (l[j]:Nat))):∃ x0 x1 x2 x3 x4 x5 x6 x7 x8 x9:Nat,l=[x0,x1,x2,x3,x4,x5,x6,x7,x8,x9]/\∀ j,(hj:j<10)->W.cell? ⟨b,o+j,none⟩=some (.int .i64 ([x0,x1,x2,x3,x4,x5,x6,x7,x8,x9][j]:Nat)):=by
  match l,hl with
  |[x0,x1,x2,x3,x4,x5,x6,x7,x8,x9],_=>exact ⟨x0,x1,x2,x3,x4,x5,x6,x7,x8,x9,rfl,fun j hj=>h j hj⟩
theorem z2j {σ:Sg} (a b c:Nat):VR σ (.agg #[.int .i64 (.ofNat a),.int .i64 (.ofNat b),.int .i64 (.ofNat c)]) (.agg #[.int .i64 (.ofNat a),.int .i64 (.ofNat b),.int .i64 (.ofNat c)]):=VR.mk ⟨_,rfl,qa _ _,qa _ _,qa _ _,trivial⟩
set_option maxRecDepth 100000 in
set_option maxHeartbeats 4000000 in
theorem yaj (caps':Array Value) (k:List Nat) (kd l:Nat) (J:List (Nat×Obj)->Nat->World->Prop) (Jx:World->Prop) (W:World)
    (hN:∀ K j W1,J K j W1->Now zha caps' k W1)
    (hK:∀ K j W1 W2 b o,J K j W1->Below W1.heap.size W1 W2->W1.heap.size<=b->W2.heap[b]?=some o->J ((b,o) :: K) j W2) (hk:∀ K j W1 b o,J K j W1->(b,o)∈K->W1.heap[b]?=some o)
    (hY:∀ kd' K j x W1,(zha.xs k)[j]?=some x->J K j W1->YieldAt mo kd' Try.prog l x.toArray W1 fun e W'=>(e=.returned (.bool true)/\J K (j+1) W')\/(e=.returned (.bool false)/\Jx W'))
    (hB:∀ K j W1 W2,J K j W1->Below W1.heap.size W1 W2->J K j W2) (h0:J [] 0 W):CallsIn mo kd Try.prog 66 (#[.func (.yield l) #[] #[]]++caps') W fun e W'=>(∃ v,e=.returned v)/\((∃ K,J K (zha.xs k).length W')\/Jx W'):=by
  obtain ⟨bt,ot,n,L,p0,c0,rfl,rfl,hn,hc0,ht0⟩:=z2i (hN [] 0 W h0)
  have hcells:∀ K j W1,J K j W1->∃ p c,W1.cell? ⟨bt,ot,none⟩=some (.slice p n c)/\ynq W1 p n L:=by
    intro K j W1 hj;obtain ⟨bt',ot',n',L',p,c,e1,e2,_,h3,h4⟩:=z2i (hN K j W1 hj);simp only [Array.mk.injEq,o7,Value.pointer.injEq,fk,Addr.mk.injEq,and_true] at e1 e2;obtain ⟨rfl,rfl⟩:=e1;obtain ⟨rfl,rfl⟩:=e2;exact ⟨p,c,h3,h4⟩
  clear ht0;show CallsIn mo kd Try.prog 66 #[.func (.yield l) #[] #[],.pointer (some ⟨bt,ot,none⟩)] W _;have hX:zha.xs (n :: L)=zi7 n++zcz L n:=rfl;rw [hX] at hY ⊢;refine callsIn_of_wp Try.func66 rfl trivial ?_ rfl;simp only [Try.ntmps66,List.size_toArray,gq,jl,gc,i9,Array.replicate_succ,Array.replicate_zero,List.push_toArray,List.append_toArray,gn,ib]
  gi_wp2
  gi_loopw [10] (fun v wr=>∃ i:Nat,i<=n/\v=.int .i64 i/\J [] i wr) (fun v _=>n - (intOf v).toNat)
  case atStart=>exact ⟨0,iz _,rfl,h0⟩
  case round =>
    obtain ⟨i,hi,rfl,hJ⟩:=hrel;by_cases hlt:i<n
    . have hx:(zi7 n++zcz L n)[i]?=some (zwd 1 i 0):=by rw [gr (by rw [zi6];exact hlt),z3g hlt]
      obtain ⟨fn,tmps,assign,body,hy,hR1⟩:=hY (kd - 1) [] i _ wr hx hJ;unfold zwd at hy;rw [show qy 1=(1:Int) from rfl,show qy i=(i:Int) from rfl,show qy 0=(0:Int) from rfl] at hy
      gi_wp2
      refine ⟨fun hq=>absurd hq (by simp [mo]),hR1.mono ?_⟩;rintro e W3 (⟨rfl,hJ3⟩|⟨rfl,hJx3⟩)
      . gi_wp2
        go_roundw
        case rel=>exact ⟨i+1,by omega,by go_num,hJ3⟩
        case measure=>simp [intOf];omega
      . gi_wp2
        refine bodyPost_ret (results_none rfl _ _ _) rfl ?_;exact ⟨⟨_,rfl⟩,.inr hJx3⟩
    . obtain rfl:i=n:=by omega
      obtain ⟨p,c,hc,-⟩:=hcells [] _ wr hJ
      gi_wp2
      clear hlt hi hc
      gi_loopw [21] (fun v wr=>∃ (K:List (Nat×Obj)) (k:Nat),k<=i/\v=.int .i64 k/\J K (posF i L k 0) wr) (fun v _=>i - (intOf v).toNat)
      case atStart=>exact ⟨[],0,iz _,rfl,hJ⟩
      case round =>
        obtain ⟨K,k,hk1,rfl,hJ⟩:=hrel;by_cases hlt:k<i
        . gi_wp2
          gi_loopw [25] (fun v wr=>∃ (K:List (Nat×Obj)) (m:Nat),m<=k/\v=.int .i64 m/\J K (posF i L k m) wr) (fun v _=>k - (intOf v).toNat)
          case atStart=>exact ⟨K,0,iz _,rfl,hJ⟩
          case round =>
            obtain ⟨K,m,hm1,rfl,hJ⟩:=hrel;by_cases hmk:m<k
            . obtain ⟨p,c,hc,ht⟩:=hcells K _ wr hJ;obtain ⟨b,o,rfl,ht2⟩:=ht (by omega);obtain ⟨e1,c1⟩:=ht2 m (by omega);obtain ⟨e2,c2⟩:=ht2 k (by omega);obtain ⟨x0,x1,x2,x3,x4,x5,x6,x7,x8,x9,hx,d1⟩:=yfx (o:=o+m*23+1) e1 (fun j hj=>by rw [show o+m*23+1+j=o+23*m+1+j by omega];exact c1 j hj);obtain ⟨y0,y1,y2,y3,y4,y5,y6,y7,y8,y9,hy,d2⟩:=yfx (o:=o+k*23+1) e2 (fun j hj=>by rw [show o+k*23+1+j=o+23*k+1+j by omega];exact c2 j hj);have d3:=d1 0 (by decide);have d4:=d2 0 (by decide);simp only [kb,List.getElem_cons_zero] at d3 d4;clear c1 c2 ht2 ht;by_cases he:ze3 L m=ze3 L k
              . have q:=fun w=>ye5 e1 e2 (zAa he) w;rw [hx,hy] at q;simp only [nV,jb,pk] at q;clear e1 e2 hx hy
                gi_wp2
                gi_region
                gi_wp2
                have hb:Below wr.heap.size wr (wr.alloc (Obj.cells #[jo fo 2,jo fo 3] 3)).drew:=((Below.refl wr.heap.size wr).alloc (fy _) _).drew;have hJ2:=hK K _ wr _ wr.heap.size _ hJ hb (fy _) (World.alloc_heap_new wr _);have hx:∀ z,z<2->(zi7 i++zcz L i)[posF i L k m+z]?=some (zwd (2+z) m k):=fun z hz=>ymj hlt hmk he z hz;obtain ⟨K2,hK2⟩:∃ K2,K2=(wr.heap.size,Obj.cells #[jo fo 2,jo fo 3] 3) :: K:=⟨_,rfl⟩;have hin:(wr.heap.size,Obj.cells #[jo fo 2,jo fo 3] 3)∈K2:=by rw [hK2];exact .head _
                rw [<- hK2] at hJ2;obtain ⟨B,hB0⟩:∃ B,B=wr.heap.size:=⟨_,rfl⟩;rw [<- hB0] at hin ⊢;clear hK2 hJ hb d1 d2 d3 d4 q hc hcells hK hB0
                gi_loopw [43] (fun v wr=>∃ (z:Nat),z<=2/\v=.int .i64 z/\J K2 (posF i L k m+z) wr) (fun v _=>2 - (intOf v).toNat)
                case atStart=>exact ⟨0,by decide,rfl,hJ2⟩
                case round =>
                  obtain ⟨z,hz,rfl,hJ⟩:=hrel;by_cases hz2:z<2
                  . have hrow:=hk _ _ _ _ _ hJ hin
                    have hcell:wr.cell? ⟨B,z,none⟩=some (.int .i64 ((2+z:Nat))):=by
                      match z,hz2 with
                      |0,_=>simp [r9,hrow]
                      |1,_=>simp [r9,hrow]
                    obtain ⟨fn,tmps,assign,body,hy,hR1⟩:=hY (kd - 1) K2 _ _ wr (hx z hz2) hJ;unfold zwd at hy;rw [show qy (2+z)=2+(z:Int) from by simp,show qy m=(m:Int) from rfl,show qy k=(k:Int) from rfl] at hy
                    gi_wp2
                    refine ⟨fun hq=>absurd hq (by simp [mo]),hR1.mono ?_⟩;rintro e W3 (⟨rfl,hJ3⟩|⟨rfl,hJx3⟩)
                    . gi_wp2
                      go_roundw
                      case rel=>exact ⟨z+1,by omega,by go_num,hJ3⟩
                      case measure=>simp [intOf];omega
                    . gi_wp2
                      refine bodyPost_ret (results_none rfl _ _ _) rfl ?_;exact ⟨⟨_,rfl⟩,.inr hJx3⟩
                  . obtain rfl:z=2:=by omega
                    gi_wp2
                    exact ⟨⟨K2,m+1,by omega,by go_num,by rw [yhb he];exact hJ⟩,by simp [intOf];omega⟩
              . have q:=fun w=>ye5 e1 e2 (zAb he) w;rw [hx,hy] at q;simp only [nV,jb,pk] at q;clear e1 e2 hx hy
                gi_wp2
                gi_region
                gi_wp2
                go_roundw
                case rel=>exact ⟨K,m+1,by omega,by go_num,by rw [yha he];exact hB _ _ wr wr.drew hJ ((Below.refl wr.heap.size wr).drew)⟩
                case measure=>simp [intOf];omega
            . obtain rfl:m=k:=by omega
              gi_wp2
              go_roundw
              case rel=>exact ⟨K,m+1,by omega,by go_num,by rw [yol];exact hJ⟩
              case measure=>simp [intOf];omega
        . obtain rfl:k=i:=by omega
          gi_wp2
          go_end0
          rw [ymk] at hJ;exact ⟨⟨_,rfl⟩,.inl ⟨_,hJ⟩⟩
theorem yhq:ItOk Try.prog 66 zha where
  can:=fun caps s k s' h _=>yd7 h
  plain:=fun k x hx σ=>by
    cases k with
    |nil=>simp [zha] at hx
    |cons n l =>
      have h1:∀ n x,x∈zi7 n->RL (VR σ) x x:=by
        intro n
        induction n with
        |zero=>intro x hx;simp [zi7] at hx
        |succ n ih =>
          intro x hx;rw [zi7,ii] at hx;rcases hx with hx|hx
          . exact ih x hx
          . rw [ig] at hx;subst hx;exact ⟨z2j _ _ _,trivial⟩
      have h2:∀ k i x,x∈zje l k i->RL (VR σ) x x:=by
        intro k i
        induction i with
        |zero=>intro x hx;simp [zje] at hx
        |succ i ih =>
          intro x hx;rw [zje,ii] at hx;rcases hx with hx|hx
          . exact ih x hx
          . rw [zcn] at hx;split at hx
            . simp only [List.mem_cons,List.not_mem_nil,or_false] at hx;rcases hx with rfl|rfl<;>exact ⟨z2j _ _ _,trivial⟩
            . simp at hx
      have h3:∀ k x,x∈zcz l k->RL (VR σ) x x:=by
        intro k
        induction k with
        |zero=>intro x hx;simp [zcz] at hx
        |succ k ih =>
          intro x hx;rw [zcz,ii] at hx;rcases hx with hx|hx
          . exact ih x hx
          . exact h2 k k x hx
      rcases ii.1 hx with hx|hx
      . exact h1 n x hx
      . exact h3 n x hx
  enter:=enters_of Try.func66 (by kernel_rfl) rfl
  runs:=fun caps' k kd l J Jx W h1 h2 _ h4 h5 h6 h7=>yaj caps' k kd l J Jx W h1 h4 h5 h6 h2 h7
end
end Go.Proofs.Ytkfnjbfnkpameaa
