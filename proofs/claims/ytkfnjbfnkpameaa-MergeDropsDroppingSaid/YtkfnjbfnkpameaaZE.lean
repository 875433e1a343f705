/- Part 5 of the proof of MergeDropsDropping (several texts in one; no further condition). -/
import Derived.Test.YtkfnjbfnkpameaaZD
import Derived.Test.YtkfnjbfnkpameaaProg
import Derived.KernelRfl
import GoSem.Claim
import Derived.ProofKit
import Derived.OpenShut
import Derived.ShutString
import Derived.ChangeOld
import Derived.Below
import Derived.Carry
import Derived.Deep.Slices
import Derived.SizedLaws
import Derived.JoinedCond
import Derived.WalkKit
import Derived.LoopNIn
import Derived.LoopIn
import Derived.Test.YtkfnjbfnkpameaaZC
import Derived.Laws.BitsAllLaws
import Derived.RangeFuncBox
import Derived.RangeFuncLeaves
import Derived.Shelf.Abstract
import Derived.OwnWalkIn
import Derived.TacticsInMore
import Derived.BigRegionIn
import Derived.Deep.MidRow
set_option linter.unusedSimpArgs false
set_option linter.unusedVariables false
set_option linter.unusedSectionVars false
namespace Go.Proofs.Ytkfnjbfnkpameaa
open Go.Addr renaming add_lit->nd
open _root_.And renaming intro->eh
open _root_.Array renaming getElem?_eq_getElem->jx
open _root_.BitVec renaming ofInt->il,toNat_and->po,toNat_ofInt->kv,toNat_ofNat->o7
open _root_.Bool renaming and_eq_true->ep,and_self->fm,eq_iff_iff->ld,true_and->ji
open _root_.Eq renaming trans->fj
open Go.Fence renaming wide->lr
open _root_.Go.RowKit renaming wrap64->pl
open _root_.Int renaming ofNat->qd
open Go renaming IntKind->gu,Operand->fk,Program->fx,TypeId->fw
open Go.IntKind renaming i64->ej
open _root_.List renaming all_cons->i9,append_assoc->fy,append_nil->gn,cons_append->f6,drop_append->lz,drop_drop->kw,drop_eq_getElem_cons->lm,drop_of_length_le->ir,drop_succ_cons->jw,drop_zero->ge,flatMap_cons->im,flatten_cons->gj,getElem?_append_left->fp,getElem?_append_right->gp,getElem?_cons_zero->gc,getElem?_drop->j0,getElem?_eq_getElem->fb,getElem?_eq_some_iff->fo,getElem?_map->ko,getElem_of_mem->ma,length_append->fi,length_cons->fq,length_drop->iw,length_map->fc,length_nil->iu,length_replicate->kh,length_set->p9,length_take->gq,map_cons->ic,map_nil->ov,mem_append->iv,mem_map->i6,mem_singleton->ke,nil_append->ft,range'->qg,range'_succ->pk,replicate->fl,replicate_succ->io,take_append->ou,take_append_drop->ip,take_append_of_le_length->kp,take_of_length_le->gz,take_zero->mo
open _root_.List.cons renaming injEq->n7
open _root_.Nat renaming add_mul->i8,add_zero->jc,beq->fg,eq_of_beq_eq_true->et,le_refl->fd,log2->jm,log2_self_le->pn,mod_eq_of_lt->m7,mul_one->py,not_lt_zero->lh,one_mul->mq,pow_le_pow_right->ks,reduceAdd->ff,reduceSub->ib,zero_add->ig,zero_le->ik
open Go.Op renaming equal->qj,equalIn->jy
open _root_.Option renaming bind_some->em
open _root_.Option.some renaming injEq->ei
open _root_.Prod.mk renaming injEq->eu
open Go.Proofs.Ytkfnjbfnkpameaa.T renaming cells->iq,flatL->qq,ids->qf,idsL->jl,int->eo,one->mv
open Go.Proofs.Ytkfnjbfnkpameaa.TS renaming set_ne->mw,set_same->mm
open Go.Proofs.Ytkfnjbfnkpameaa.VR renaming ofInt->pc
open Go.Value renaming bool->ri,int->iz,okWide->qr
open Go.World renaming cell?->qz
set_option maxRecDepth 100000
open Go Go.RowKit
structure Ar (n:Nat) where
  l:List Int
  h:l.length=n
deriving DecidableEq
instance {n:Nat}:Inhabited (Ar n):=⟨⟨fl n 0,kh⟩⟩
theorem Ar.ext' {n:Nat} {a b:Ar n} (h:a.l=b.l):a=b:=by cases a;cases b;cases h;rfl
theorem Ar.eq_iff {n:Nat} {a b:Ar n}:a=b↔a.l=b.l:=⟨fun h=>by rw [h],Ar.ext'⟩
def mkAr (n:Nat) (l:List Int):Ar n:=⟨(l++fl n 0).take n,by rw [gq,fi,kh];omega⟩
def zA (n:Nat):Ar n:=⟨fl n 0,kh⟩
def zVs (n:Nat) (k:gu):List Value:=fl n (.int k 0)
theorem yk3 {n:Nat} {k:gu}:zft (zVs n k)=some ((zA n).l.map (eo k)):=by
  show zft (fl n (.int k 0))=some ((fl n 0).map (eo k))
  induction n with
  |zero=>rfl
  |succ n ih=>rw [io,io,ic];unfold zft;rw [ih];rfl
def eAr (k:gu) {n:Nat} (a:Ar n):T:=.agg (a.l.map (eo k))
theorem ycj {k:gu} {n:Nat} (a:Ar n):(eAr k a).cells=a.l.map (eo k):=fj rfl rfl
theorem zhj {k:gu} {n:Nat} (a:Ar n):(eAr k a).cells.length=n:=by rw [ycj,fc,a.h]
theorem zpy {k:gu}:∀ (l:List Int),(l.map (eo k)).all mv=true
  |[]=>rfl
  |x :: l=>by rw [ic,i9,zpy l];rfl
theorem zfw {k:gu} {m:Nat}:∀ (l:List Int),jl m (l.map (eo k))=true
  |[]=>rfl
  |x :: l=>by simp only [ic,jl,qf,zfw l,fm]
theorem yg2 {k:gu} {m n:Nat} (a:Ar n):(eAr k a).ids m=true:=zfw a.l
theorem z28 {k:gu}:∀ (l:List Int),qq (l.map (eo k))=true
  |[]=>rfl
  |x :: l=>by simp only [ic,qq,T.flat,z28 l,fm]
section
variable {P:fx}
theorem z0q (len:Nat) (β:Type) (b:β) (f:Nat->β->Sem (ForInStep β)):(forIn [0:len] b f:Sem β)=forIn (qg 0 len) b f:=by
  rw [Std.Legacy.Range.forIn_eq_forIn_range'];simp [Std.Legacy.Range.size]
theorem zia {k:gu}:∀ (l:List Int),zfv (l.map (eo k))=some (l.map (iz k))
  |[]=>rfl
  |x :: l=>by rw [ic];unfold zfv;rw [zia l];rfl
theorem yj6 {σ:Type} (s0 s1:σ) (x y:List Int) (len:Nat) (hx:x.length=len) (hy:y.length=len) (f:Nat->σ->Sem (ForInStep σ))
    (hf:∀ i (hi:i<len),za3 P (f i s0)=some (if x[i]=y[i] then .yield s0 else .done s1)) :
    ∀ (m k:Nat),k+m=len->za3 P (forIn (qg k m) s0 f:Sem σ)=some (if x.drop k=y.drop k then s0 else s1):=by
  intro m
  induction m with
  |zero=>intro k hk;simp [ir (show x.length<=k by omega),ir (show y.length<=k by omega)];rfl
  |succ m ih =>
    intro k hk;have hdx:=lm (show k<x.length by omega);have hdy:=lm (show k<y.length by omega);rw [pk,List.forIn_cons,zaf,hf k (by omega)];by_cases hxy:x[k]'(by omega)=y[k]'(by omega)
    . rw [zAc hxy];show za3 P (forIn (qg (k+1) m) s0 f)=_;rw [ih (k+1) (by omega),hdx,hdy];simp only [hxy,n7,true_and]
    . rw [zAd hxy,hdx,hdy];simp only [hxy,n7,false_and,if_false];rfl
theorem ymf (d:Nat) {e:fw} (k k':gu) (a b:Int) (he:P.underlying e=some (.int k)):za3 P (jy (d+1) e (.int k' a) (.int k' b))=some (a == b):=by
  unfold jy;rw [zaf,zcb he];cases k'<;>rfl
theorem ymg (d:Nat) {t e len:Nat} {k:gu} {i:TypeInfo} (ht:P.underlying t=some (.array len e)) (he:P.underlying e=some (.int k)) (hi:P.info? e=some i) (hsz:i.size=1) (x y:List Int) (hx:x.length=len) (hy:y.length=len) :
    za3 P (jy (d+2) t (.agg (x.map (iz k)).toArray) (.agg (y.map (iz k)).toArray))=some (x == y):=by
  have hpart:∀ (l:List Int) (j:Nat) (hk:j<l.length),za3 P (part e (l.map (iz k)).toArray j)=some (.int k l[j]):=by
    intro l j hk
    have hagg:za3 P (isAgg e)=some false:=by
      unfold isAgg;rw [zaf,zcb he];rfl
    have hp:∀ v:Value,za3 P (pure v:Sem Value)=some v:=fun v=>rfl;simp [part,zaf,hagg,hk,hp]
  have hq:∀ a b:Int,za3 P (jy (d+1) e (.int k a) (.int k b))=some (a == b):=fun a b=>ymf d k k a b he;show za3 P (jy ((d+1)+1) _ _ _)=_;generalize d+1=d' at *
  have hsize:za3 P (sizeOf e)=some 1:=by
    unfold sizeOf typeInfo;rw [zaf,zaf];show ((za3 P (match P.info? e with|some i=>pure i|none=>_)).bind _)=_;rw [hi];show za3 P (pure i.size)=_;rw [hsz];rfl
  have hpu:∀ {α:Type} (v:α),za3 P (pure v:Sem α)=some v:=fun v=>rfl;simp only [jy,zaf,zcb ht,em,hsize,z0q,py];rw [yj6 (P:=P) (none,()) (some false,()) x y len hx hy _ ?_ len 0 (by omega)]
  . by_cases hxy:x=y
    . subst hxy;simp [hpu]
    . simp [hxy,hpu]
  . intro j hk;simp only [zaf,hpart x j (by omega),hpart y j (by omega),em,hq];by_cases hxy:x[j]'(by omega)=y[j]'(by omega)
    . have e1:((x[j]'(by omega)) == (y[j]'(by omega)))=true:=by rw [hxy];simp
      rw [e1,zAc hxy];simp [hpu]
    . have e1:((x[j]'(by omega)) == (y[j]'(by omega)))=false:=by
        simp only [beq_eq_false_iff_ne,ne_eq];exact hxy
      rw [e1,zAd hxy];simp [hpu]
variable {Γ:Env} {S:TS} {t:fw} {x y:fk}
theorem z88 {n e:Nat} {k:gu} (ht:P.underlying t=some (.array n e)) (he:P.underlying e=some (.int k)) (hi:(P.info? e).map (·.size)=some 1) (hq:P.eqGuardType P.depth t=false) (a b:Ar n) :
    tBin P Γ S t .eql x y (eAr k a) (eAr k b)=some (.bool (decide (a=b)))/\tBin P Γ S t .neq x y (eAr k a) (eAr k b)=some (.bool (!(decide (a=b)))):=by
  obtain ⟨i,hi1,hi2⟩:∃ i,P.info? e=some i/\i.size=1:=by
    cases h:P.info? e with
    |none=>rw [h] at hi;simp at hi
    |some i=>rw [h] at hi;exact ⟨i,rfl,by simpa using hi⟩
  have h:=ymg (P:=P) 9998 ht he hi1 hi2 a.l b.l a.h b.h
  have hg:∀ op,op=.eql\/op=.neq->za3 P (eqGuard op t x y (.agg (a.l.map (iz k)).toArray) (.agg (b.l.map (iz k)).toArray))=some ():=by
    intro op hop;rcases hop with rfl|rfl
    . show za3 P (if !(P.eqGuardType P.depth t) then pure () else _)=some ();rw [hq];rfl
    . show za3 P (if !(P.eqGuardType P.depth t) then pure () else _)=some ();rw [hq];rfl
  have hd:(a.l == b.l)=decide (a=b):=by
    by_cases hab:a=b
    . rw [hab];simp
    . rw [zAb hab];have:a.l≠b.l:=fun hh=>hab (Ar.ext' hh);simp [this]
  have he:za3 P (binOp .eql t (.agg (a.l.map (iz k)).toArray) (.agg (b.l.map (iz k)).toArray))=some (.bool (decide (a=b))):=by
    show za3 P (do pure (ri (<- qj t (.agg (a.l.map (iz k)).toArray) (.agg (b.l.map (iz k)).toArray))):Sem Value)=_;have h2:za3 P (qj t (.agg (a.l.map (iz k)).toArray) (.agg (b.l.map (iz k)).toArray))=some (a.l == b.l):=h;rw [zaf,h2,hd];rfl
  have hn:za3 P (binOp .neq t (.agg (a.l.map (iz k)).toArray) (.agg (b.l.map (iz k)).toArray))=some (.bool (!(decide (a=b)))):=by
    show za3 P (do pure (ri (!(<- qj t (.agg (a.l.map (iz k)).toArray) (.agg (b.l.map (iz k)).toArray)))):Sem Value)=_;have h2:za3 P (qj t (.agg (a.l.map (iz k)).toArray) (.agg (b.l.map (iz k)).toArray))=some (a.l == b.l):=h;rw [zaf,h2,hd];rfl
  constructor
  . show zm9 P t .eql x y _ _=_;unfold zm9;rw [zia,zia];simp only;rw [zaf,hg _ (.inl rfl)];show (match za3 P (binOp .eql t (.agg (a.l.map (iz k)).toArray) (.agg (b.l.map (iz k)).toArray)) with|some (.bool r)=>some (T.bool r)|_=>none)=_;rw [he]
  . show zm9 P t .neq x y _ _=_;unfold zm9;rw [zia,zia];simp only;rw [zaf,hg _ (.inr rfl)];show (match za3 P (binOp .neq t (.agg (a.l.map (iz k)).toArray) (.agg (b.l.map (iz k)).toArray)) with|some (.bool r)=>some (T.bool r)|_=>none)=_;rw [hn]
end
section
variable {GL:List (Nat×List Value)} {A A' A2:Nat->Prop} {β β' β2:Bx} {S S' S2:TS} {s s' s2:CS} {P:fx} {Γ:Env} {N:Nat} {h h' h2:Nat->T} {Q R:Exit->(Nat->T)->TS->Prop}
theorem VL.setAt {g:Nat->Fam} {t:T} {v:Value}:∀ {l:List T} {vs:List Value} {i:Nat},VL A β g l vs->vs[i]?=some v->VT A β g t v->VL A β g (l.set i t) vs
  |[],_,_,.nil,_,_=>.nil
  |x :: l,y :: vs,0,.cons k1 k2,hv,ht=>by
    simp only [gc,ei] at hv;subst hv;exact .cons ht k2
  |x :: l,y :: vs,i+1,.cons k1 k2,hv,ht=>.cons k1 (VL.setAt k2 (by simpa using hv) ht)
theorem TW.freezeC {c:Code} (c0 i:Nat) {b e len M N0:Nat} {z z0:Bool} {l l0:List T} (L:List T) (hS0:S.box c0=.cells z0 N0 l0) (hi:l0[i]?=some (.arr b e 0 len len M)) (hne:c0≠b) (hS:S.box b=.cells z M l) (he:0<e) (hoff:0+len*e<=M) (hL:(l.drop 0).take (len*e)=L.flatMap iq) (hs:∀ t,t∈L->t.cells.length=e) (hlen:L.length=len)
    (k:TW P Γ GL N c h ((S.set c0 (.cells z0 N0 (l0.set i (.lst e L)))).set b .gone) Q):TW P Γ GL N c h S Q:=by
  intro A β fr s hF hT;obtain ⟨A',β',k1,k2,k3⟩:=hT.freeze hS;obtain ⟨n0,hc⟩:=hT.cells c0 z0 N0 l0 hS0;have hS0':(S.set b .gone).box c0=.cells z0 N0 l0:=by rw [mw _ _ hne];exact hS0
  obtain ⟨n1,hc'⟩:=k1.cells c0 z0 N0 l0 hS0';have hi0:i<l0.length:=(fo.1 hi).1
  have hnew:znx A' β' (zaa s.obj) c0 z0 N0 (l0.set i (.lst e L)):=by
    rcases hc with ⟨_,q,_⟩|⟨f,u,cs,rest,a1,a2,a3,a4,a5⟩
    . omega
    . rcases hc' with ⟨_,q,_⟩|⟨f',u',cs',rest',b1,b2,b3,b4,b5⟩
      . omega
      . obtain ⟨l',c1,c2⟩:=k2.bx c0 _ a1;rw [b1] at c1;cases c1;simp only [Loc.le] at c2;rcases c2 with ⟨rfl,rfl,_⟩|c2
        . rw [a3] at b3;simp only [Fam.mk.injEq,n7,eu] at b3;obtain ⟨_,⟨⟨_,rfl⟩,rfl⟩,_⟩:=b3;obtain ⟨v,v1,v2⟩:=a4.get hi;refine ⟨by rw [p9];exact n0,.inr ⟨f,u,cs,rest,b1,a2,a3,b4.setAt v1 (k3 v2 he hoff hL hs hlen (fd _)),a5⟩⟩
        . omega
  have hT':TRel GL A' β' ((S.set c0 (.cells z0 N0 (l0.set i (.lst e L)))).set b .gone) s:=by
    refine ⟨k1.inr,k1.inv,k1.alt,k1.dis,k1.inj,k1.next,fun b' z N' l' hb'=>?_,fun b' l' hb'=>?_,k1.glob⟩
    . by_cases e1:b'=b
      . subst e1;rw [mm] at hb';cases hb'
      . rw [mw _ _ e1] at hb';by_cases e2:b'=c0
        . subst e2;rw [mm] at hb';cases hb';exact hnew
        . rw [mw _ _ e2] at hb';exact k1.cells b' z N' l' (by rw [mw _ _ e1];exact hb')
    . by_cases e1:b'=b
      . subst e1;rw [mm] at hb';cases hb'
      . rw [mw _ _ e1] at hb';by_cases e2:b'=c0
        . subst e2;rw [mm] at hb';cases hb'
        . rw [mw _ _ e2] at hb';exact k1.maps b' l' (by rw [mw _ _ e1];exact hb')
  have hF':FrOk A' β' (zaa s.obj) N h fr:=⟨hF.nt,hF.le,fun u=>k2.vt hT (hF.slot u)⟩;refine (k A' β' fr s hF' hT').mono ?_;rintro e2 fr2 s2 ⟨h2,S2,l2,q2⟩;exact ⟨h2,S2,Left.trans (h':=h) (fr':=fr) hT.le k2 l2,q2⟩
theorem TW.nilC {c:Code} (c0 i e:Nat) {N0:Nat} {z0:Bool} {l0:List T} (hS0:S.box c0=.cells z0 N0 l0) (hi:l0[i]?=some .nils) (k:TW P Γ GL N c h (S.set c0 (.cells z0 N0 (l0.set i (.lst e [])))) Q):TW P Γ GL N c h S Q:=by
  intro A β fr s hF hT;obtain ⟨n0,hc⟩:=hT.cells c0 z0 N0 l0 hS0;have hi0:i<l0.length:=(fo.1 hi).1
  have hnew:znx A β (zaa s.obj) c0 z0 N0 (l0.set i (.lst e [])):=by
    rcases hc with ⟨_,q,_⟩|⟨f,u,cs,rest,a1,a2,a3,a4,a5⟩
    . omega
    . obtain ⟨v,v1,v2⟩:=a4.get hi;refine ⟨by rw [p9];exact n0,.inr ⟨f,u,cs,rest,a1,a2,a3,a4.setAt v1 ?_,a5⟩⟩;cases v2;exact .lnil
  have hT':TRel GL A β (S.set c0 (.cells z0 N0 (l0.set i (.lst e [])))) s:=by
    refine ⟨hT.inr,hT.inv,hT.alt,hT.dis,hT.inj,hT.next,fun b' z N' l' hb'=>?_,fun b' l' hb'=>?_,hT.glob⟩
    . by_cases e2:b'=c0
      . subst e2;rw [mm] at hb';cases hb';exact hnew
      . rw [mw _ _ e2] at hb';exact hT.cells b' z N' l' hb'
    . by_cases e2:b'=c0
      . subst e2;rw [mm] at hb';cases hb'
      . rw [mw _ _ e2] at hb';exact hT.maps b' l' hb'
  exact k A β fr s hF hT'
theorem TW.vecC {c:Code} (c0 i e:Nat) {N0:Nat} {z0:Bool} {l0:List T} (hS0:S.box c0=.cells z0 N0 l0) (hi:l0[i]?=some .nils) (h0:c0<S.n) (k:TW P Γ GL N c h ((S.set c0 (.cells z0 N0 (l0.set i (.arr S.n e 0 0 0 0)))).add (.cells false 0 [])) Q):TW P Γ GL N c h S Q:=by
  intro A β fr s hF hT;have hb0:β S.n=none:=hT.next _ (fd _)
  have hle:Bx.le β (bnew β S.n .nil):=zyj hb0;have hse:bnew β S.n .nil S.n=some .nil:=zAc rfl;have hne:∀ b',b'≠S.n->bnew β S.n .nil b'=β b':=fun b' hb'=>zAd hb'
  have hown:∀ f,Own (bnew β S.n .nil) f->Own β f:=fun f ⟨b',hb'⟩=>by
    by_cases hi:b'=S.n
    . subst hi;rw [hse] at hb';rcases hb' with ⟨u,N,hb'⟩|hb'<;>simp at hb'
    . rw [hne b' hi] at hb';exact ⟨b',hb'⟩
  have hst:Stp A β s A (bnew β S.n .nil) s:=⟨Can.refl _,fun _ h=>h,fun _ h=>.inl h,fun f hf=>.inl (hown f hf),fun _ _ _=>rfl,hle,fun _ h=>.inl h,fun _ h=>.inl h⟩;obtain ⟨n0,hc⟩:=hT.cells c0 z0 N0 l0 hS0;have hi0:i<l0.length:=(fo.1 hi).1
  have hnew:znx A (bnew β S.n .nil) (zaa s.obj) c0 z0 N0 (l0.set i (.arr S.n e 0 0 0 0)):=by
    rcases hc with ⟨_,q,_⟩|⟨f,u,cs,rest,a1,a2,a3,a4,a5⟩
    . omega
    . obtain ⟨v,v1,v2⟩:=a4.get hi;have a4':=a4.mono (A':=A) (β':=bnew β S.n .nil) (g':=zaa s.obj) (fun _ h=>h) (fun _ _=>rfl) hle;refine ⟨by rw [p9];exact n0,.inr ⟨f,u,cs,rest,by rw [hne c0 (by omega)];exact a1,a2,a3,a4'.setAt v1 ?_,a5⟩⟩;cases v2;exact .arrNil hse
  have hT':TRel GL A (bnew β S.n .nil) ((S.set c0 (.cells z0 N0 (l0.set i (.arr S.n e 0 0 0 0)))).add (.cells false 0 [])) s:=by
    refine ⟨hT.inr,hT.inv,hT.alt,fun f hf=>hT.dis f (hown f hf),fun b1 b2 l1 l2 f h1 h2 h3 h4=>?_,fun b' hb'=>?_,fun b' z N l hb'=>?_,fun b' l hb'=>?_,hT.glob⟩
    . by_cases e1:b1=S.n
      . subst e1;rw [hse] at h1;cases h1;simp [Loc.fam] at h3
      . by_cases e2:b2=S.n
        . subst e2;rw [hse] at h2;cases h2;simp [Loc.fam] at h4
        . rw [hne b1 e1] at h1;rw [hne b2 e2] at h2;exact hT.inj b1 b2 l1 l2 f h1 h2 h3 h4
    . have:S.n+1<=b':=hb';rw [hne b' (by omega)];exact hT.next b' (by omega)
    . by_cases hi:b'=S.n
      . subst hi;have hq:=(TS.add_same (S.set c0 (.cells z0 N0 (l0.set i (.arr S.n e 0 0 0 0)))) (.cells false 0 [])).symm.trans hb';cases hq;exact ⟨rfl,.inl ⟨hse,rfl,rfl⟩⟩
      . rw [TS.add_ne _ _ (show b'≠(S.set c0 (.cells z0 N0 (l0.set i (.arr S.n e 0 0 0 0)))).n from hi)] at hb';by_cases e2:b'=c0
        . subst e2;rw [mm] at hb';cases hb';exact hnew
        . rw [mw _ _ e2] at hb';exact (hT.cells b' z N l hb').mono (fun _ h=>h) (fun _ _=>rfl) hle (hne b' hi) fun _ _ _ _=>rfl
    . by_cases hi:b'=S.n
      . subst hi;have hq:=(TS.add_same (S.set c0 (.cells z0 N0 (l0.set i (.arr S.n e 0 0 0 0)))) (.cells false 0 [])).symm.trans hb';cases hq
      . rw [TS.add_ne _ _ (show b'≠(S.set c0 (.cells z0 N0 (l0.set i (.arr S.n e 0 0 0 0)))).n from hi)] at hb';by_cases e2:b'=c0
        . subst e2;rw [mm] at hb';cases hb'
        . rw [mw _ _ e2] at hb';exact (hT.maps b' l hb').mono (fun _ h=>h) (fun _ _=>rfl) hle (hne b' hi) fun _ _=>rfl
  have hF':FrOk A (bnew β S.n .nil) (zaa s.obj) N h fr:=⟨hF.nt,hF.le,fun u=>hst.vt hT (hF.slot u)⟩;refine (k A _ fr s hF' hT').mono ?_;rintro e2 fr2 s2 ⟨h2,S2,l2,q2⟩;exact ⟨h2,S2,Left.trans (h':=h) (fr':=fr) hT.le hst l2,q2⟩
end
theorem zoy {α:Type} (f:α->T) (l:List α):(l.map f).flatMap iq=vecC f l:=rfl
theorem zkg {α:Type} {f:α->T} (h:∀ x,(f x).cells.all mv=true):∀ (l:List α),(vecC f l).all mv=true
  |[]=>rfl
  |x :: l=>by
    have ih:=zkg h l;unfold vecC at ih ⊢;rw [ic,im,List.all_append,h,ih];rfl
def Le1:List T->List T->Prop
  |[],[]=>True
  |t :: l,t' :: l'=>(t=t'\/(t=.nils/\∃ e,t'=.lst e []))/\Le1 l l'
  |_,_=>False
def Le2:List T->List T->Prop
  |[],[]=>True
  |t :: l,t' :: l'=>(t=t'\/(t=.nils/\∃ e,t'=.lst e [])\/∃ m m',t=.agg m/\t'=.agg m'/\Le1 m m')/\Le2 l l'
  |_,_=>False
theorem Le1.vl {A:Nat->Prop} {β:Bx} {g:Nat->Fam}:∀ {l l':List T} {vs:List Value},Le1 l l'->VL A β g l vs->VL A β g l' vs
  |[],[],_,_,.nil=>.nil
  |t :: l,t' :: l',_,h,.cons k1 k2=>by
    obtain ⟨h1,h2⟩:=h;rcases h1 with rfl|⟨rfl,e,rfl⟩
    . exact .cons k1 (Le1.vl h2 k2)
    . cases k1;exact .cons .lnil (Le1.vl h2 k2)
theorem Le2.vl {A:Nat->Prop} {β:Bx} {g:Nat->Fam}:∀ {l l':List T} {vs:List Value},Le2 l l'->VL A β g l vs->VL A β g l' vs
  |[],[],_,_,.nil=>.nil
  |t :: l,t' :: l',_,h,.cons k1 k2=>by
    obtain ⟨h1,h2⟩:=h;rcases h1 with rfl|⟨rfl,e,rfl⟩|⟨m,m',rfl,rfl,h3⟩
    . exact .cons k1 (Le2.vl h2 k2)
    . cases k1;exact .cons .lnil (Le2.vl h2 k2)
    . cases k1 with|agg k=>exact .cons (.agg (h3.vl k)) (Le2.vl h2 k2)
theorem ymn {n:Nat} {i:Int} (h:0<=i/\i<=(n:Int)):zbx n n (some (.int .i64 i)) none none=some (i.toNat,n,n):=by
  obtain ⟨k,rfl⟩:∃ k:Nat,i=(k:Int):=⟨i.toNat,by omega⟩;exact yfm rfl (by omega) (fd _)
theorem Ar.len {n:Nat} (a:Ar n):a.l.length=n:=a.h
def Ar.set {n:Nat} (a:Ar n) (i v:Int):Ar n:=⟨a.l.set i.toNat v,by rw [p9,a.h]⟩
theorem yci {k:gu} {n:Nat} (a:Ar n):eAr k a=.agg (a.l.map (eo k)):=fj rfl rfl
theorem arIx {n:Nat} (a:Ar n) {i:Int} (h:0<=i/\i<(n:Int)):a.l[i.toNat]?=some (gx a.l i):=zak (by rw [a.h];exact h)
theorem arSpl {k:gu} {n:Nat} (a b:Ar n):spl (a.l.map (eo k)) 0 (b.l.map (eo k))=b.l.map (eo k):=by
  unfold spl;rw [mo,ft,ir (by rw [fc,fc,a.h,b.h];omega),gn]
theorem yms {k:gu} {n:Nat} (a:Ar n) {i:Int} (v:Int) (h:0<=i/\i<(n:Int)):spl (a.l.map (eo k)) i.toNat [eo k v]=(a.set i v).l.map (eo k):=by
  exact yjd (f:=eo k) (v:=v) (L:=a.l) (i:=i.toNat) (by rw [a.h];omega)
def u8o (z:Int):UInt8:=UInt8.ofNat z.toNat
def strL (l:List Int):ByteArray:=⟨(l.map u8o).toArray⟩
def bytL (s:ByteArray):List Int:=s.data.toList.map fun c=>(c.toNat:Int)
theorem z6y (s:ByteArray):(bytL s).length=s.size:=by unfold bytL;rw [fc];exact Array.length_toList
theorem z1l (s:ByteArray):zgz s=(bytL s).map (eo .u8):=by
  unfold zgz bytL;rw [List.map_map];rfl
theorem zym:∀ (l:List Int),ztt (l.map (eo .u8))=some (l.map u8o)
  |[]=>rfl
  |x :: l=>by rw [ic];unfold ztt;rw [zym l];rfl
theorem z34 (l:List Int):(⟨(l.map u8o).toArray⟩:ByteArray)=strL l:=fj rfl rfl
theorem zyg {k:gu}:∀ (l:List Int),(l.map (eo k)).flatMap iq=l.map (eo k)
  |[]=>rfl
  |x :: l=>by rw [ic,im,zyg l];rfl
theorem yi7 {k:gu} {l:List Int} {n:Nat} (h:l.length=n):(l.map (eo k)).take n=l.map (eo k):=gz (by rw [fc,h];omega)
theorem z80 {k:gu} {l:List Int}:(l.map (eo k)).take l.length=l.map (eo k):=yi7 rfl
def cpA {n:Nat} (a:Ar n) (s:ByteArray):Ar n:=⟨(bytL s).take (min s.size n)++a.l.drop (min s.size n),by rw [fi,gq,iw,z6y,a.h];omega⟩
theorem yis {n:Nat} (a:Ar n) (s:ByteArray):spl (a.l.map (eo .u8)) 0 (((bytL s).map (eo .u8)).take (min s.size n))=(cpA a s).l.map (eo .u8):=by
  unfold spl cpA;rw [mo,ft,gq,fc,z6y,List.map_append,List.map_take,List.map_drop,ig];congr 2;omega
theorem ydb {k:gu} {l:List Int} {n:Nat}:((l.map (eo k)).take n).all mv=true:=by rw [<- List.map_take];exact zpy _
theorem yir {n:Nat}:zbx n n none none none=some (0,n,n):=z8h (fd _)
theorem yek {d k:Nat}:natO d (some (.int .i64 (k:Int)))=some k:=by
  rfl
theorem ymo {n:Nat} {j:Int} (h:0<=j/\j<=(n:Int)):zbx n n none (some (.int .i64 j)) none=some (0,j.toNat,n):=by
  obtain ⟨b,rfl⟩:∃ k:Nat,j=(k:Int):=⟨j.toNat,by omega⟩;rw [zmz,yek];show (bif Nat.ble 0 b && Nat.ble b n && Nat.ble n n && _ then some (0,b,n) else none)=_;rw [zgm (by omega),zgm (by omega),zgm (fd _)];rfl
theorem sub0 {n:Nat}:n - 0=n:=Nat.sub_zero n
inductive CK where
  |int (k:gu)
  |bool
  |str
def ckV:CK->Value->Bool
  |.int k,.int k' _=>decide (k=k')
  |.bool,.bool _=>true
  |.str,.string _=>true
  |_,_=>false
def zd7:List CK->List Value->Bool
  |[],[]=>true
  |c :: l,v :: m=>ckV c v && zd7 l m
  |_,_=>false
def zma:Value->Value->Bool
  |.int _ a,.int _ b=>a == b
  |.bool a,.bool b=>a == b
  |.string a,.string b=>a == b
  |_,_=>false
def eqVs:List Value->List Value->Bool
  |v :: l,w :: m=>zma v w && eqVs l m
  |_,_=>true
theorem zoz:∀ {sh:List CK} {xs:List Value},zd7 sh xs=true->xs.length=sh.length
  |[],[],_=>rfl
  |_ :: _,_ :: _,h=>by
    simp only [zd7,ep] at h;rw [fq,fq,zoz h.2]
  |[],_ :: _,h=>by simp [zd7] at h
  |_ :: _,[],h=>by simp [zd7] at h
theorem zmu {c:CK}:∀ {xs:List Value},zd7 [c] xs=true->∃ v,xs=[v]/\ckV c v=true
  |[],h=>by simp [zd7] at h
  |[v],h=>⟨v,rfl,by simpa [zd7] using h⟩
  |_ :: _ :: _,h=>by simp [zd7] at h
theorem zpv:∀ {a b:List CK} {xs:List Value},zd7 (a++b) xs=true->zd7 a (xs.take a.length)=true/\zd7 b (xs.drop a.length)=true
  |[],b,xs,h=>⟨by simp [zd7],by simpa using h⟩
  |c :: a,b,[],h=>by simp [zd7] at h
  |c :: a,b,v :: xs,h=>by
    simp only [f6,zd7,ep] at h;obtain ⟨h1,h2⟩:=zpv h.2;exact ⟨by simp only [fq,List.take_succ_cons,zd7,h.1,h1,fm],by simpa using h2⟩
theorem zkx:∀ {a b c d:List Value},a.length=c.length->eqVs (a++b) (c++d)=(eqVs a c && eqVs b d)
  |[],b,[],d,_=>rfl
  |x :: a,b,y :: c,d,h=>by
    simp only [f6,eqVs,zkx (Nat.succ.inj h),Bool.and_assoc]
  |[],_,_ :: _,_,h=>by simp at h
  |_ :: _,_,[],_,h=>by simp at h
def valA (a:Bool) (xs:List Value):Value:=if a then .agg xs.toArray else xs.headD undef
noncomputable def znf (P:fx) (g:fw->Option (Bool×List CK)):List Field->Nat->Option (List CK)
  |[],_=>some []
  |f :: l,off=>match g f.type,(P.info? f.type).map (fun i=>i.size) with
    | some (_, sh), some sz => if f.name ≠ "_" /\ f.offset = off /\ sz = sh.length then
        (match znf P g l (off+sh.length) with|some r=>some (sh++r)|none=>none) else none
    |_,_=>none
noncomputable def zga (P:fx):Nat->fw->Option (Bool×List CK)
  |0,_=>none
  |d+1,t=>match P.underlying t with
    |some (.int k)=>some (false,[.int k])
    |some .bool=>some (false,[.bool])
    |some .string=>some (false,[.str])
    |some (.struct fs)=>if P.stoodInHeld t=true then none else (match znf P (zga P d) fs.toList 0 with|some l=>some (true,l)|none=>none)
    |some (.array n e)=>(match zga P d e,(P.info? e).map (fun i=>i.size) with
      |some (_,sh),some sz=>if sz=sh.length then some (true,(fl n sh).flatten) else none
      |_,_=>none)
    |_=>none
section
variable {P:fx}
theorem zx9 {α σ:Type} (s0 s1:σ) (f:α->σ->Sem (ForInStep σ)) (b:α->Bool):∀ (l:List α),(∀ x,x∈l->za3 P (f x s0)=some (if b x then .yield s0 else .done s1))->za3 P (forIn l s0 f:Sem σ)=some (if l.all b then s0 else s1)
  |[],_=>by simp;rfl
  |x :: l,h=>by
    rw [List.forIn_cons,zaf,h x (.head _)]
    cases hb:b x with
    |true =>
      show za3 P (forIn l s0 f)=_;rw [zx9 s0 s1 f b l fun y hy=>h y (.tail _ hy),i9,hb,ji]
    |false =>
      rw [i9,hb,Bool.false_and];rfl
theorem yfb {d:Nat} {t:fw} {a:Bool} {sh:List CK} (h:zga P d t=some (a,sh)):za3 P (isAgg t)=some a:=by
  cases d with
  |zero=>simp [zga] at h
  |succ d =>
    unfold zga at h;unfold isAgg;rw [zaf]
    cases hu:P.underlying t with
    |none=>rw [hu] at h;simp at h
    |some u =>
      rw [hu] at h;rw [zcb hu]
      cases u with
      |int k=>simp at h;rw [<- h.1];rfl
      |bool=>simp at h;rw [<- h.1];rfl
      |string=>simp at h;rw [<- h.1];rfl
      |struct fs =>
        simp only at h;split at h
        . simp at h
        . split at h
          . simp at h;rw [<- h.1];rfl
          . simp at h
      |array n e =>
        simp only at h;split at h
        . split at h
          . simp at h;rw [<- h.1];rfl
          . simp at h
        . simp at h
      |_=>simp at h
theorem z9q {d:Nat} {t:fw} {sh:List CK} (h:zga P d t=some (false,sh)):∃ c,sh=[c]:=by
  cases d with
  |zero=>simp [zga] at h
  |succ d =>
    unfold zga at h;split at h
    . simp at h;exact ⟨_,h.symm⟩
    . simp at h;exact ⟨_,h.symm⟩
    . simp at h;exact ⟨_,h.symm⟩
    . split at h
      . simp at h
      . split at h<;>simp at h
    . split at h
      . split at h<;>simp at h
      . simp at h
    . simp at h
theorem z0x {t:fw} {sz:Nat} (h:(P.info? t).map (fun i=>i.size)=some sz):za3 P (sizeOf t)=some sz:=by
  cases hi:P.info? t with
  |none=>rw [hi] at h;simp at h
  |some i =>
    rw [hi] at h;unfold sizeOf typeInfo;rw [zaf,zaf];show ((za3 P (match P.info? t with|some i=>pure i|none=>_)).bind _)=_;rw [hi];simp at h;show za3 P (pure i.size)=_;rw [h];rfl
theorem zrg {d : Nat} {t : fw} {a : Bool} {sh : List CK} (h : zga P d t = some (a, sh)) (hs : (P.info? t).map (fun i => i.size) = some sh.length) (xs : List Value) (off : Nat) (hl : off + sh.length <= xs.length) :
    za3 P (part t xs.toArray off)=some (valA a ((xs.drop off).take sh.length)):=by
  unfold part;rw [zaf,yfb h]
  cases a with
  |true =>
    show za3 P (do let n <- sizeOf t;pure (Value.agg (xs.toArray.extract off (off+n))))=_;rw [zaf,z0x hs];show some (Value.agg (xs.toArray.extract off (off+sh.length)))=_;rw [List.extract_toArray,List.extract_eq_take_drop,Nat.add_sub_cancel_left];rfl
  |false =>
    obtain ⟨c,rfl⟩:=z9q h;simp only [fq,iu,ig] at hl ⊢;show za3 P (match xs.toArray[off]? with|some v=>pure v|none=>_)=_;rw [List.getElem?_toArray,fb (by omega),lm (by omega)];rfl
theorem zwd {g:fw->Option (Bool×List CK)}:∀ {l:List Field} {off:Nat} {sh:List CK} {xs ys:List Value},znf P g l off=some sh->xs.length=off+sh.length->ys.length=off+sh.length ->
    (l.all fun f=>match g f.type with|some (_,s)=>eqVs ((xs.drop f.offset).take s.length) ((ys.drop f.offset).take s.length)|none=>true)=eqVs (xs.drop off) (ys.drop off)
  |[],off,sh,xs,ys,h,hx,hy=>by
    simp only [znf,ei] at h;subst h;rw [ir (by simp at hx;omega),ir (by simp at hy;omega)];rfl
  |f :: l,off,sh,xs,ys,h,hx,hy=>by
    unfold znf at h;split at h
    . rename_i a s sz hg hs;split at h
      . rename_i hc;split at h
        . rename_i r hr;cases h;rw [fi] at hx hy;rw [i9,zwd hr (by omega) (by omega),hg];simp only;rw [hc.2.1]
          have hr2:eqVs (xs.drop off) (ys.drop off)=(eqVs ((xs.drop off).take s.length) ((ys.drop off).take s.length) && eqVs (xs.drop (off+s.length)) (ys.drop (off+s.length))):=by
            conv=>lhs;rw [<- ip s.length (xs.drop off),<- ip s.length (ys.drop off)]
            rw [zkx (by rw [gq,gq,iw,iw];omega),kw,kw]
          rw [hr2]
        . cases h
      . cases h
    . cases h
theorem zne {g : fw -> Option (Bool × List CK)} : ∀ {l : List Field} {off : Nat} {sh : List CK} {xs : List Value}, znf P g l off = some sh -> xs.length = off + sh.length -> zd7 sh (xs.drop off) = true -> ∀ f, f ∈ l -> ∃ a s, g f.type = some (a, s) /\ (P.info? f.type).map (fun i => i.size) = some s.length /\ f.name ≠ "_" /\ f.offset + s.length <= xs.length /\ zd7 s ((xs.drop f.offset).take s.length) = true
  |[],off,sh,xs,h,hx,hf,f,hm=>by cases hm
  |f' :: l,off,sh,xs,h,hx,hf,f,hm=>by
    unfold znf at h;split at h
    . rename_i a s sz hg hs;split at h
      . rename_i hc;split at h
        . rename_i r hr;cases h;rw [fi] at hx;obtain ⟨f1,f2⟩:=zpv hf;rw [kw] at f2
          cases hm with
          |head=>exact ⟨a,s,hg,by rw [hs,hc.2.2],hc.1,by rw [hc.2.1];omega,by rw [hc.2.1];exact f1⟩
          |tail _ hm=>exact zne hr (by omega) f2 f hm
        . cases h
      . cases h
    . cases h
theorem z56 {s:List CK}:∀ (n k:Nat) {xs ys:List Value},xs.length=(k+n)*s.length->ys.length=(k+n)*s.length ->
    ((qg k n).all fun i=>eqVs ((xs.drop (i*s.length)).take s.length) ((ys.drop (i*s.length)).take s.length))=eqVs (xs.drop (k*s.length)) (ys.drop (k*s.length))
  |0,k,xs,ys,hx,hy=>by
    rw [ir (by rw [hx];exact fd _),ir (by rw [hy];exact fd _)];rfl
  |n+1,k,xs,ys,hx,hy=>by
    have e:(k+(n+1))*s.length=k*s.length+s.length+n*s.length:=by rw [i8,i8,mq];omega
    rw [pk,i9,z56 n (k+1) (by rw [hx];congr 1;omega) (by rw [hy];congr 1;omega)];rw [i8,mq,<- kw,<- kw,<- zkx (by rw [gq,gq,iw,iw];omega),ip,ip]
theorem zx5 {s:List CK}:∀ {n:Nat} {xs:List Value},zd7 (fl n s).flatten xs=true->∀ i,i<n->zd7 s ((xs.drop (i*s.length)).take s.length)=true
  |0,xs,h,i,hi=>by omega
  |n+1,xs,h,i,hi=>by
    rw [io,gj] at h;obtain ⟨h1,h2⟩:=zpv h
    cases i with
    |zero=>simpa using h1
    |succ i =>
      have:=zx5 h2 i (by omega);rw [kw] at this;rw [i8,mq,Nat.add_comm];exact this
theorem yic:∀ (d:Nat) {t:fw} {a:Bool} {sh:List CK},zga P d t=some (a,sh)->∀ {xs ys:List Value},zd7 sh xs=true->zd7 sh ys=true->za3 P (jy d t (valA a xs) (valA a ys))=some (eqVs xs ys):=by
  intro d
  induction d with
  |zero=>intro t a sh h;simp [zga] at h
  |succ d ih =>
    intro t a sh h xs ys hx hy;have hpu:∀ {α:Type} (v:α),za3 P (pure v:Sem α)=some v:=fun v=>rfl;unfold zga at h;unfold jy;rw [zaf]
    cases hu:P.underlying t with
    |none=>rw [hu] at h;simp at h
    |some u =>
      rw [hu] at h;rw [zcb hu]
      cases u with
      |int k =>
        simp at h;obtain ⟨rfl,rfl⟩:=h;obtain ⟨v,rfl,h1⟩:=zmu hx;obtain ⟨w,rfl,h2⟩:=zmu hy
        . cases v<;>simp [ckV] at h1;cases w<;>simp [ckV] at h2;subst h1 h2
          simp [valA,eqVs,zma,hpu]
      |bool =>
        simp at h;obtain ⟨rfl,rfl⟩:=h;obtain ⟨v,rfl,h1⟩:=zmu hx;obtain ⟨w,rfl,h2⟩:=zmu hy
        . cases v<;>simp [ckV] at h1;cases w<;>simp [ckV] at h2
          simp [valA,eqVs,zma,hpu]
      |string =>
        simp at h;obtain ⟨rfl,rfl⟩:=h;obtain ⟨v,rfl,h1⟩:=zmu hx;obtain ⟨w,rfl,h2⟩:=zmu hy
        . cases v<;>simp [ckV] at h1;cases w<;>simp [ckV] at h2
          simp [valA,eqVs,zma,hpu]
      |struct fs =>
        simp only at h;split at h
        . simp at h
        . rename_i hst;split at h
          . rename_i l hl;simp at h;obtain ⟨rfl,rfl⟩:=h;have lx:=zoz hx;have ly:=zoz hy;have hall:=zwd hl (by rw [lx];omega) (by rw [ly];omega);rw [ge,ge] at hall;simp only [valA,if_true,em];rw [zaf];show (((some P:Option fx)).bind _)=_;simp only [em,zAd hst];rw [zaf];show ((za3 P (forIn fs _ _)).bind _)=_;rw [<- Array.forIn_toList];rw [zx9 (P:=P) (none,()) (some false,()) _ (fun f=>match zga P d f.type with|some (_,s)=>eqVs ((xs.drop f.offset).take s.length) ((ys.drop f.offset).take s.length)|none=>true) fs.toList ?_]
            . rw [hall];cases eqVs xs ys<;>rfl
            . intro f hf;obtain ⟨a,s,g1,g2,g3,g4,g5⟩:=zne hl (by rw [lx];omega) (by rw [ge];exact hx) f hf;obtain ⟨a',s',g1',_,_,g4',g5'⟩:=zne hl (by rw [ly];omega) (by rw [ge];exact hy) f hf;rw [g1] at g1';cases g1';rw [zAc g3,zaf,zrg g1 g2 _ _ g4];simp only [em];rw [zaf,zrg g1 g2 _ _ g4'];simp only [em];rw [zaf,ih g1 g5 g5',g1];simp only [em];have hq:∀ q:Bool,za3 P (if (!q)=true then pure (ForInStep.done (some false,())) else pure (ForInStep.yield (none,())):Sem (ForInStep (Option Bool×Unit)))=some (if q=true then .yield (none,()) else .done (some false,())):=by intro q;cases q<;>rfl
              exact hq _
          . simp at h
      |array n e =>
        simp only at h;split at h
        . rename_i ae se sz hse hsz;split at h
          . rename_i hc;subst hc;simp at h;obtain ⟨rfl,rfl⟩:=h;have lx:=zoz hx;have ly:=zoz hy;have hlen:(fl n se).flatten.length=n*se.length:=by simp
            rw [hlen] at lx ly;simp only [valA,if_true,em];rw [zaf,z0x hsz];simp only [em,z0q];rw [zaf,zx9 (P:=P) (none,()) (some false,()) _ (fun i=>eqVs ((xs.drop (i*se.length)).take se.length) ((ys.drop (i*se.length)).take se.length)) (qg 0 n) ?_]
            . rw [z56 n 0 (by rw [lx];congr 1;omega) (by rw [ly];congr 1;omega),Nat.zero_mul,ge,ge];cases eqVs xs ys<;>rfl
            . intro i hi;have hin:i<n:=by have:=List.mem_range'_1.1 hi;omega
              have hle:i*se.length+se.length<=n*se.length:=by
                have:=Nat.mul_le_mul_right se.length (show i+1<=n by omega);rw [i8,mq] at this;exact this
              rw [zaf,zrg hse hsz _ _ (by omega)];simp only [em];rw [zaf,zrg hse hsz _ _ (by omega)];simp only [em];rw [zaf,ih hse (zx5 hx i hin) (zx5 hy i hin)];simp only [em];have hq:∀ q:Bool,za3 P (if (!q)=true then pure (ForInStep.done (some false,())) else pure (ForInStep.yield (none,())):Sem (ForInStep (Option Bool×Unit)))=some (if q=true then .yield (none,()) else .done (some false,())):=by intro q;cases q<;>rfl
              exact hq _
          . simp at h
        . simp at h
      |_=>simp at h
variable {Γ:Env} {S:TS} {t:fw} {x y:fk}
theorem zpi {sh:List CK} {l m:List T} {vs ws:List Value} (ht:zga P 10000 t=some (true,sh)) (hq:P.eqGuardType P.depth t=false) (hl:zfv l=some vs) (hm:zfv m=some ws) (hx:zd7 sh vs=true) (hy:zd7 sh ws=true) {b:Bool} (hb:eqVs vs ws=b) :
    tBin P Γ S t .eql x y (.agg l) (.agg m)=some (.bool b)/\tBin P Γ S t .neq x y (.agg l) (.agg m)=some (.bool (!b)):=by
  have h:za3 P (qj t (.agg vs.toArray) (.agg ws.toArray))=some b:=by rw [<- hb];exact yic 10000 ht hx hy
  have hg:∀ op,op=.eql\/op=.neq->za3 P (eqGuard op t x y (.agg vs.toArray) (.agg ws.toArray))=some ():=by
    intro op hop;rcases hop with rfl|rfl
    . show za3 P (if !(P.eqGuardType P.depth t) then pure () else _)=some ();rw [hq];rfl
    . show za3 P (if !(P.eqGuardType P.depth t) then pure () else _)=some ();rw [hq];rfl
  have he:za3 P (binOp .eql t (.agg vs.toArray) (.agg ws.toArray))=some (.bool b):=by
    show za3 P (do pure (ri (<- qj t (.agg vs.toArray) (.agg ws.toArray))):Sem Value)=_;rw [zaf,h];rfl
  have hn:za3 P (binOp .neq t (.agg vs.toArray) (.agg ws.toArray))=some (.bool (!b)):=by
    show za3 P (do pure (ri (!(<- qj t (.agg vs.toArray) (.agg ws.toArray)))):Sem Value)=_;rw [zaf,h];rfl
  constructor
  . show zm9 P t .eql x y _ _=_;unfold zm9;rw [hl,hm];simp only;rw [zaf,hg _ (.inl rfl)];show (match za3 P (binOp .eql t (.agg vs.toArray) (.agg ws.toArray)) with|some (.bool r)=>some (T.bool r)|_=>none)=_;rw [he]
  . show zm9 P t .neq x y _ _=_;unfold zm9;rw [hl,hm];simp only;rw [zaf,hg _ (.inr rfl)];show (match za3 P (binOp .neq t (.agg vs.toArray) (.agg ws.toArray)) with|some (.bool r)=>some (T.bool r)|_=>none)=_;rw [hn]
theorem zkp:∀ {a b:List T} {x y:List Value},zfv a=some x->zfv b=some y->zfv (a++b)=some (x++y)
  |[],b,x,y,h,h2=>by simp only [zfv,ei] at h;subst h;exact h2
  |t :: a,b,x,y,h,h2=>by
    unfold zfv at h;split at h
    . rename_i v r e1 e2;cases h;rw [f6];unfold zfv;rw [e1,zkp e2 h2];rfl
    . cases h
theorem z0y {k:gu}:∀ {a b:List Int},a.length=b.length->eqVs (a.map (iz k)) (b.map (iz k))=decide (a=b)
  |[],[],_=>rfl
  |x :: a,y :: b,h=>by
    rw [ic,ic,eqVs,z0y (Nat.succ.inj h)];simp only [zma,n7,Bool.decide_and]
    congr 1
  |[],_ :: _,h=>by simp at h
  |_ :: _,[],h=>by simp at h
theorem zya {k:gu} {n:Nat} (a b:Ar n):eqVs (a.l.map (iz k)) (b.l.map (iz k))=decide (a=b):=by
  rw [z0y (by rw [a.h,b.h])];exact decide_eq_decide.2 (Ar.eq_iff.symm)
theorem z0u {k:gu}:∀ {l:List Int} {r:List CK} {vs:List Value},zd7 r vs=true->zd7 (fl l.length (.int k)++r) (l.map (iz k)++vs)=true
  |[],r,vs,h=>h
  |x :: l,r,vs,h=>by
    rw [fq,io,ic,f6,f6,zd7,z0u h];simp [ckV]
end
section
variable {k:gu} {n m:Nat} (a b:Ar n) (r xs:List T)
theorem sgT (h:n<=m):(a.l.map (eo k)++r).take m=a.l.map (eo k)++r.take (m - n):=by
  rw [ou,gz (by rw [fc,a.h];exact h),fc,a.h]
theorem sgT1 (h:n<=m):(a.l.map (eo k)).take m=a.l.map (eo k):=gz (by rw [fc,a.h];exact h)
theorem sgD (h:n<=m):(a.l.map (eo k)++r).drop m=r.drop (m - n):=by
  rw [lz,ir (by rw [fc,a.h];exact h),ft,fc,a.h]
theorem sgD1 (h:n<=m):(a.l.map (eo k)).drop m=[]:=ir (by rw [fc,a.h];exact h)
theorem sgG (h:n<=m):(a.l.map (eo k)++r)[m]?=r[m - n]?:=by
  rw [gp (by rw [fc,a.h];exact h),fc,a.h]
theorem splA:spl (a.l.map (eo k)++r) 0 (b.l.map (eo k)++xs)=b.l.map (eo k)++spl r 0 xs:=by
  unfold spl;rw [mo,mo,ft,ft,fy,ig,ig,fi,fc,b.h,<- kw];congr 3;rw [lz,ir (by rw [fc,a.h];exact fd _),fc,a.h,Nat.sub_self];rfl
theorem ylj:spl (a.l.map (eo k)++r) 0 (b.l.map (eo k))=b.l.map (eo k)++r:=by
  have:=splA (k:=k) a b r [];rw [gn] at this;rw [this,yjf]
theorem yli:spl (a.l.map (eo k)) 0 (b.l.map (eo k))=b.l.map (eo k):=arSpl a b
theorem splS (h:n<=m):spl (a.l.map (eo k)++r) m xs=a.l.map (eo k)++spl r (m - n) xs:=by
  unfold spl;rw [sgT a r h,lz,ir (by rw [fc,a.h];omega),fc,a.h,ft];simp only [fy];congr 4;omega
theorem z2c (v:T) (h:n<=m):(a.l.map (eo k)++r).set m v=a.l.map (eo k)++r.set (m - n) v:=by
  rw [List.set_append,zAd (by rw [fc,a.h];omega),fc,a.h]
end
theorem zm8 {k:gu} {n off:Nat} {L r:List T} (a:Ar n) {i:Int} (h:0<=i/\i<(n:Int)) (hL:L.drop off=a.l.map (eo k)++r:=by first|rfl | (simp (disch:=decide) only [fy,gn,fi,f6,ft,fc,fq,iu,Ar.len,sgD,sgD1,jw,ge,ib,ff,ig];done)):L[off+i.toNat]?=some (eo k (gx a.l i)):=by
  rw [<- j0,hL,fp (by rw [fc,a.h];omega),ko,arIx a h];rfl
theorem zp0 {k:gu} {n:Nat} {L r:List T} (a:Ar n) {i:Int} (h:0<=i/\i<(n:Int)) (hL:L=a.l.map (eo k)++r:=by first|rfl | (simp (disch:=decide) only [fy,gn,fi,f6,ft,fc,fq,iu,Ar.len,sgD,sgD1,jw,ge,ib,ff,ig];done)):L[i.toNat]?=some (eo k (gx a.l i)):=by
  have:=zm8 (off:=0) (L:=L) a h (by rw [ge];exact hL)
  rwa [ig] at this
theorem setAt {k:gu} {n off:Nat} {L L2 p r:List T} (a:Ar n) {i:Int} (v:Int) (h:0<=i/\i<(n:Int)) (hL:L=p++(a.l.map (eo k)++r):=by first|rfl | (simp (disch:=decide) only [fy,gn,fi,f6,ft,fc,fq,iu,Ar.len,sgD,sgD1,jw,ge,ib,ff,ig];done)) (hp:p.length=off:=by first|rfl | (simp (disch:=decide) only [fy,gn,fi,f6,ft,fc,fq,iu,Ar.len,sgD,sgD1,jw,ge,ib,ff,ig];done)) (h2:L2=p++((a.set i v).l.map (eo k)++r):=by first|rfl | (simp (disch:=decide) only [fy,gn,fi,f6,ft,fc,fq,iu,Ar.len,sgD,sgD1,jw,ge,ib,ff,ig];done)):spl L (off+i.toNat) [eo k v]=L2:=by
  subst hL h2;have hs:=yms (k:=k) a v h;unfold spl at hs ⊢;have hi:i.toNat+1<=n:=by omega
  rw [<- hs];simp only [fq,iu,ig];rw [ou,gz (show p.length<=off+i.toNat by omega),show off+i.toNat - p.length=i.toNat by omega,kp (by rw [fc,a.h];omega)];rw [lz,ir (show p.length<=off+i.toNat+1 by omega),show off+i.toNat+1 - p.length=i.toNat+1 by omega,ft,List.drop_append_of_le_length (by rw [fc,a.h];omega)];simp only [fy]
theorem z9t {k:gu} {n:Nat} {L L2 r:List T} (a:Ar n) {i:Int} (v:Int) (h:0<=i/\i<(n:Int)) (hL:L=a.l.map (eo k)++r:=by first|rfl | (simp (disch:=decide) only [fy,gn,fi,f6,ft,fc,fq,iu,Ar.len,sgD,sgD1,jw,ge,ib,ff,ig];done)) (h2:L2=(a.set i v).l.map (eo k)++r:=by first|rfl | (simp (disch:=decide) only [fy,gn,fi,f6,ft,fc,fq,iu,Ar.len,sgD,sgD1,jw,ge,ib,ff,ig];done)):spl L i.toNat [eo k v]=L2:=by
  have:=setAt (off:=0) (p:=[]) (L:=L) (L2:=L2) a v h hL rfl h2
  rwa [ig] at this
/-! bits of integers -/
def iAnd (k:gu) (a b:Int):Int:=k.wrap (il k.bits a &&& il k.bits b).toNat
def iOr (k:gu) (a b:Int):Int:=k.wrap (il k.bits a ||| il k.bits b).toNat
def iXor (k:gu) (a b:Int):Int:=k.wrap (il k.bits a ^^^ il k.bits b).toNat
def zgw (k:gu) (a b:Int):Int:=k.wrap (il k.bits a &&& ~~~ il k.bits b).toNat
def iShl (k:gu) (a b:Int):Int:=k.wrap (a*2 ^ (min b.toNat k.bits))
def iShr (k:gu) (a b:Int):Int:=a.fdiv (2 ^ (min b.toNat k.bits))
theorem ygz {k:gu} {a b:Int}:zbn .and k k a b=some (.int k (iAnd k a b)):=ymd
theorem yl8 {k:gu} {a b:Int}:zbn .or k k a b=some (.int k (iOr k a b)):=ib_or
theorem ygy {k:gu} {a b:Int}:zbn .xor k k a b=some (.int k (iXor k a b)):=yma
theorem ybp {k:gu} {a b:Int}:zbn .andNot k k a b=some (.int k (zgw k a b)):=by simp [zbn,zgw]
theorem yl7 {k k':gu} {a b:Int} (h:0<=b):zbn .shl k k' a b=some (.int k (iShl k a b)):=ymc h
theorem zvv {k k':gu} {a b:Int} (h:0<=b):zbn .shr k k' a b=some (.int k (iShr k a b)):=ymb h
theorem zko {t:T} {l:List T} {v:Value} {r:List Value} (h:ydz t=some v) (k:zfv l=some r):zfv (t :: l)=some (v :: r):=by
  unfold zfv;rw [h,k]
theorem zo0 {c:CK} {v:Value} {r:List CK} {vs:List Value} (h:ckV c v=true) (k:zd7 r vs=true):zd7 (c :: r) (v :: vs)=true:=by
  rw [zd7,h,k];rfl
theorem z6m (k:gu) (n:Int):ckV (.int k) (.int k n)=true:=by simp [ckV]
theorem z29 {k:gu} {n:Nat} (a:Ar n) {r:List CK} {vs:List Value} (h:zd7 r vs=true):zd7 (fl n (.int k)++r) (a.l.map (iz k)++vs)=true:=by
  have:=z0u (k:=k) (l:=a.l) h
  rwa [a.h] at this
theorem z51 {k:gu} {n:Nat} (a:Ar n):zd7 (fl n (.int k)) (a.l.map (iz k))=true:=by
  have:=z29 (k:=k) a (r:=[]) (vs:=[]) rfl
  rwa [gn,gn] at this
theorem z3c {k:gu} {n:Nat} (a b:Ar n) (x y:List Value):eqVs (a.l.map (iz k)++x) (b.l.map (iz k)++y)=(decide (a=b) && eqVs x y):=by
  rw [zkx (by rw [fc,fc,a.h,b.h]),zya]
theorem yad {α:Type} {f:α->T} (z:α):∀ n:Nat,rep n (f z).cells=vecC f (fl n z)
  |0=>rfl
  |n+1=>by
    have:=yad (f:=f) z n;unfold rep vecC at this ⊢;rw [io,gj,this,io,ic,im]
theorem ybz {k:gu} {m:Nat} (l:List Int):(T.agg (l.map (eo k))).ids m=true:=zfw l
theorem zl8:∀ (a b:List T),qq (a++b)=(qq a && qq b)
  |[],b=>by simp [qq]
  |t :: a,b=>by rw [f6,qq,qq,zl8 a b,Bool.and_assoc]
theorem yc7 (l:List T):l++[]=l:=gn l
theorem z1r (a b c:List T):a++b++c=a++(b++c):=fy a b c
theorem zsv (a b:List T):(a++b).length=a.length+b.length:=fi
theorem zyl (a b:List T) (p:T->Bool):(a++b).all p=(a.all p && b.all p):=List.all_append
theorem zyu (n:Nat):([]:List T).take n=[]:=List.take_nil
theorem z02 (n:Nat):([]:List T).drop n=[]:=List.drop_nil
noncomputable def LL:List Nat:=[3,4,5,6,7,8,9,10,11,12,13,14,15,16,17,18,19,20,21,22,23,24,25,26,27,28,29,30,31,32,33,34,35,36,37,38,39,40,41,42,43,44,45,46,47,48,49,50,51,52,53,54,55,56,57,58,59,60,61,62,63,64,65,66,67,68,69,70,71,72,73,74,75,76,77,78,79,80,81,82,83,84,85,86,87,88,89,90,91,92,93,94,95,96,97]
def GG:List Nat:=[]
noncomputable def EE (ax:Axs):Env:=zgx Try.prog LL ax
theorem ze0 (ax:Axs):zdy Try.prog (EE ax):=ycf _ _ _
theorem z5x:zl7 Try.prog GG LL=true:=by kernel_rfl
theorem yeo:Try.prog.follows .mixedOrders=true:=by kernel_rfl
noncomputable def aggO:Option (List T)->Option T
  |some l=>some (.agg l)
  |none=>none
theorem fn7 (ax:Axs):(EE ax).fn.at 7=some Try.f7:=by kernel_rfl
theorem fn8 (ax:Axs):(EE ax).fn.at 8=some Try.f8:=by kernel_rfl
theorem fn9 (ax:Axs):(EE ax).fn.at 9=some Try.f9:=by kernel_rfl
theorem fn10 (ax:Axs):(EE ax).fn.at 10=some Try.f10:=by kernel_rfl
theorem fn12 (ax:Axs):(EE ax).fn.at 12=some Try.f12:=by kernel_rfl
theorem fn15 (ax:Axs):(EE ax).fn.at 15=some Try.f15:=by kernel_rfl
theorem fn16 (ax:Axs):(EE ax).fn.at 16=some Try.f16:=by kernel_rfl
theorem fn19 (ax:Axs):(EE ax).fn.at 19=some Try.f19:=by kernel_rfl
theorem fn23 (ax:Axs):(EE ax).fn.at 23=some Try.f23:=by kernel_rfl
theorem fn24 (ax:Axs):(EE ax).fn.at 24=some Try.f24:=by kernel_rfl
theorem fn27 (ax:Axs):(EE ax).fn.at 27=some Try.f27:=by kernel_rfl
theorem fn28 (ax:Axs):(EE ax).fn.at 28=some Try.f28:=by kernel_rfl
theorem fn29 (ax:Axs):(EE ax).fn.at 29=some Try.f29:=by kernel_rfl
theorem fn30 (ax:Axs):(EE ax).fn.at 30=some Try.f30:=by kernel_rfl
theorem fn31 (ax:Axs):(EE ax).fn.at 31=some Try.f31:=by kernel_rfl
theorem fn32 (ax:Axs):(EE ax).fn.at 32=some Try.f32:=by kernel_rfl
theorem fn33 (ax:Axs):(EE ax).fn.at 33=some Try.f33:=by kernel_rfl
theorem fn34 (ax:Axs):(EE ax).fn.at 34=some Try.f34:=by kernel_rfl
theorem fn37 (ax:Axs):(EE ax).fn.at 37=some Try.f37:=by kernel_rfl
theorem fn38 (ax:Axs):(EE ax).fn.at 38=some Try.f38:=by kernel_rfl
theorem fn39 (ax:Axs):(EE ax).fn.at 39=some Try.f39:=by kernel_rfl
theorem fn44 (ax:Axs):(EE ax).fn.at 44=some Try.f44:=by kernel_rfl
theorem fn46 (ax:Axs):(EE ax).fn.at 46=some Try.f46:=by kernel_rfl
theorem fn50 (ax:Axs):(EE ax).fn.at 50=some Try.f50:=by kernel_rfl
theorem fn51 (ax:Axs):(EE ax).fn.at 51=some Try.f51:=by kernel_rfl
theorem fn52 (ax:Axs):(EE ax).fn.at 52=some Try.f52:=by kernel_rfl
theorem fn53 (ax:Axs):(EE ax).fn.at 53=some Try.f53:=by kernel_rfl
theorem fn54 (ax:Axs):(EE ax).fn.at 54=some Try.f54:=by kernel_rfl
theorem fn55 (ax:Axs):(EE ax).fn.at 55=some Try.f55:=by kernel_rfl
theorem fn56 (ax:Axs):(EE ax).fn.at 56=some Try.f56:=by kernel_rfl
theorem fn57 (ax:Axs):(EE ax).fn.at 57=some Try.f57:=by kernel_rfl
theorem fn58 (ax:Axs):(EE ax).fn.at 58=some Try.f58:=by kernel_rfl
theorem fn59 (ax:Axs):(EE ax).fn.at 59=some Try.f59:=by kernel_rfl
theorem fn60 (ax:Axs):(EE ax).fn.at 60=some Try.f60:=by kernel_rfl
theorem fn61 (ax:Axs):(EE ax).fn.at 61=some Try.f61:=by kernel_rfl
theorem fn62 (ax:Axs):(EE ax).fn.at 62=some Try.f62:=by kernel_rfl
theorem fn63 (ax:Axs):(EE ax).fn.at 63=some Try.f63:=by kernel_rfl
theorem fn67 (ax:Axs):(EE ax).fn.at 67=some Try.f67:=by kernel_rfl
theorem fn68 (ax:Axs):(EE ax).fn.at 68=some Try.f68:=by kernel_rfl
theorem fn69 (ax:Axs):(EE ax).fn.at 69=some Try.f69:=by kernel_rfl
theorem fn70 (ax:Axs):(EE ax).fn.at 70=some Try.f70:=by kernel_rfl
theorem fn72 (ax:Axs):(EE ax).fn.at 72=some Try.f72:=by kernel_rfl
theorem fn73 (ax:Axs):(EE ax).fn.at 73=some Try.f73:=by kernel_rfl
theorem fn74 (ax:Axs):(EE ax).fn.at 74=some Try.f74:=by kernel_rfl
theorem fn75 (ax:Axs):(EE ax).fn.at 75=some Try.f75:=by kernel_rfl
theorem fn76 (ax:Axs):(EE ax).fn.at 76=some Try.f76:=by kernel_rfl
theorem fn77 (ax:Axs):(EE ax).fn.at 77=some Try.f77:=by kernel_rfl
theorem fn78 (ax:Axs):(EE ax).fn.at 78=some Try.f78:=by kernel_rfl
theorem fn79 (ax:Axs):(EE ax).fn.at 79=some Try.f79:=by kernel_rfl
theorem fn81 (ax:Axs):(EE ax).fn.at 81=some Try.f81:=by kernel_rfl
theorem fn82 (ax:Axs):(EE ax).fn.at 82=some Try.f82:=by kernel_rfl
theorem fn83 (ax:Axs):(EE ax).fn.at 83=some Try.f83:=by kernel_rfl
theorem fn84 (ax:Axs):(EE ax).fn.at 84=some Try.f84:=by kernel_rfl
theorem fn85 (ax:Axs):(EE ax).fn.at 85=some Try.f85:=by kernel_rfl
theorem fn86 (ax:Axs):(EE ax).fn.at 86=some Try.f86:=by kernel_rfl
theorem fn87 (ax:Axs):(EE ax).fn.at 87=some Try.f87:=by kernel_rfl
theorem fn88 (ax:Axs):(EE ax).fn.at 88=some Try.f88:=by kernel_rfl
theorem fn89 (ax:Axs):(EE ax).fn.at 89=some Try.f89:=by kernel_rfl
theorem fn90 (ax:Axs):(EE ax).fn.at 90=some Try.f90:=by kernel_rfl
theorem fn92 (ax:Axs):(EE ax).fn.at 92=some Try.f92:=by kernel_rfl
theorem fn95 (ax:Axs):(EE ax).fn.at 95=some Try.f95:=by kernel_rfl
theorem fn96 (ax:Axs):(EE ax).fn.at 96=some Try.f96:=by kernel_rfl
theorem ti3 (ax:Axs):(EE ax).ti.at 3=some ⟨.int .i64,1,8,[.int .i64 0]⟩:=by kernel_rfl
theorem ti4 (ax:Axs):(EE ax).ti.at 4=some ⟨.bool,1,1,[.bool false]⟩:=by kernel_rfl
theorem ti5 (ax:Axs):(EE ax).ti.at 5=some ⟨.int .u8,1,1,[.int .u8 0]⟩:=by kernel_rfl
theorem ti9 (ax:Axs):(EE ax).ti.at 9=some ⟨.string,1,16,[.string ⟨#[]⟩]⟩:=by kernel_rfl
theorem ti22 (ax:Axs):(EE ax).ti.at 22=some ⟨.slice 93,1,24,[.slice none 0 0]⟩:=by kernel_rfl
theorem ti23 (ax:Axs):(EE ax).ti.at 23=some ⟨.slice 95,1,24,[.slice none 0 0]⟩:=by kernel_rfl
theorem ti24 (ax:Axs):(EE ax).ti.at 24=some ⟨.slice 98,1,24,[.slice none 0 0]⟩:=by kernel_rfl
theorem yib (ax:Axs) (S:TS) (b off N:Nat):zaj (EE ax) S 26 0 (.ptr b off N)=bif S.has b N then some (.ptr b (off+0) N) else none:=by kernel_rfl
theorem yia (ax:Axs) (S:TS) (b off N:Nat):zaj (EE ax) S 26 1 (.ptr b off N)=bif S.has b N then some (.ptr b (off+1) N) else none:=by kernel_rfl
theorem yh9 (ax:Axs) (S:TS) (b off N:Nat):zaj (EE ax) S 26 2 (.ptr b off N)=bif S.has b N then some (.ptr b (off+2) N) else none:=by kernel_rfl
noncomputable def fs26:Array Field:=match Try.prog.underlying 26 with|some (.struct fs)=>fs|_=>#[]
theorem ti26 (ax:Axs):(EE ax).ti.at 26=some ⟨.struct fs26,3,72,[.slice none 0 0,.slice none 0 0,.slice none 0 0]⟩:=by kernel_rfl
theorem ti28 (ax:Axs):(EE ax).ti.at 28=some ⟨.slice 59,1,24,[.slice none 0 0]⟩:=by kernel_rfl
theorem sr28 (ax:Axs):srcT (EE ax) 28=true:=by kernel_rfl
theorem yh8 (ax:Axs) (S:TS) (b off N:Nat):zaj (EE ax) S 30 0 (.ptr b off N)=bif S.has b N then some (.ptr b (off+0) N) else none:=by kernel_rfl
theorem yhq (ax:Axs) (S:TS) (l:List T):zaj (EE ax) S 30 0 (.cp l)=some (.cp (l.drop 0)):=by kernel_rfl
theorem yh7 (ax:Axs) (S:TS) (b off N:Nat):zaj (EE ax) S 30 1 (.ptr b off N)=bif S.has b N then some (.ptr b (off+1) N) else none:=by kernel_rfl
theorem zo3 (ax:Axs) (S:TS) (l:List T):zaj (EE ax) S 30 1 (.cp l)=some (.cp (l.drop 1)):=by kernel_rfl
theorem yh6 (ax:Axs) (S:TS) (b off N:Nat):zaj (EE ax) S 30 2 (.ptr b off N)=bif S.has b N then some (.ptr b (off+2) N) else none:=by kernel_rfl
theorem ztd (ax:Axs) (S:TS) (l:List T):zaj (EE ax) S 30 2 (.cp l)=some (.cp (l.drop 2)):=by kernel_rfl
noncomputable def fs30:Array Field:=match Try.prog.underlying 30 with|some (.struct fs)=>fs|_=>#[]
theorem bt30 (ax:Axs) (ρ:fk->T) (parts:List (Nat×fk)):zi3 (EE ax) ρ 30 parts=aggO (zbz [.int .i64 0,.int .i64 0,.int .i64 0] (zbe (ze3 (EE ax) fs30) ρ parts)):=by kernel_rfl
theorem ti30 (ax:Axs):(EE ax).ti.at 30=some ⟨.struct fs30,3,24,[.int .i64 0,.int .i64 0,.int .i64 0]⟩:=by kernel_rfl
theorem ygs (ax:Axs):ze3 (EE ax) fs30 0=some (0,1):=by kernel_rfl
theorem ygr (ax:Axs):ze3 (EE ax) fs30 1=some (1,1):=by kernel_rfl
theorem ygq (ax:Axs):ze3 (EE ax) fs30 2=some (2,1):=by kernel_rfl
theorem ti40 (ax:Axs):(EE ax).ti.at 40=some ⟨.slice 30,1,24,[.slice none 0 0]⟩:=by kernel_rfl
theorem sr40 (ax:Axs):srcT (EE ax) 40=true:=by kernel_rfl
theorem tz43 (ax:Axs):(EE ax).ti.at 43=some ⟨.array 10 3,10,80,zVs 10 .i64⟩:=by kernel_rfl
theorem aq43 (ax:Axs) (a b:Ar 10):(∀ (S:TS) (x y:fk),tBin Try.prog (EE ax) S 43 .eql x y (.agg (a.l.map (eo .i64))) (.agg (b.l.map (eo .i64)))=some (.bool (decide (a=b))))/\(∀ (S:TS) (x y:fk),tBin Try.prog (EE ax) S 43 .neq x y (.agg (a.l.map (eo .i64))) (.agg (b.l.map (eo .i64)))=some (.bool (!(decide (a=b))))):=⟨fun _ _ _=>(z88 (e:=3) (by kernel_rfl) (by kernel_rfl) (by kernel_rfl) (by kernel_rfl) a b).1,fun _ _ _=>(z88 (e:=3) (by kernel_rfl) (by kernel_rfl) (by kernel_rfl) (by kernel_rfl) a b).2⟩
theorem bz43 (ax:Axs):∀ (ρ:fk->T),zi3 (EE ax) ρ 43 []=some (.agg ((zA 10).l.map (eo .i64))):=fun _=>rfl
theorem ti48 (ax:Axs):(EE ax).ti.at 48=some ⟨.slice 3,1,24,[.slice none 0 0]⟩:=by kernel_rfl
theorem sr48 (ax:Axs):srcT (EE ax) 48=true:=by kernel_rfl
def zS56:List Value:=[.int .i64 0,.int .i64 0,.int .i64 0,.int .i64 0,.int .i64 0,.int .i64 0,.int .i64 0,.int .i64 0,.int .i64 0,.int .i64 0,.int .i64 0,.int .i64 0,.int .i64 0,.int .i64 0,.int .i64 0,.int .i64 0,.int .i64 0,.int .i64 0,.int .i64 0,.int .i64 0]
theorem yfy:zft zS56=some ((zA 10).l.map (eo .i64)++((zA 10).l.map (eo .i64))):=rfl
theorem z3w:zS56.length=20:=rfl
theorem yh5 (ax:Axs) (S:TS) (b off N:Nat):zaj (EE ax) S 56 0 (.ptr b off N)=bif S.has b N then some (.ptr b (off+0) N) else none:=by kernel_rfl
theorem yhp (ax:Axs) (S:TS) (l:List T):zaj (EE ax) S 56 0 (.cp l)=some (.cp (l.drop 0)):=by kernel_rfl
theorem yh4 (ax:Axs) (S:TS) (b off N:Nat):zaj (EE ax) S 56 1 (.ptr b off N)=bif S.has b N then some (.ptr b (off+10) N) else none:=by kernel_rfl
theorem yho (ax:Axs) (S:TS) (l:List T):zaj (EE ax) S 56 1 (.cp l)=some (.cp (l.drop 10)):=by kernel_rfl
noncomputable def fs56:Array Field:=match Try.prog.underlying 56 with|some (.struct fs)=>fs|_=>#[]
theorem bt56 (ax:Axs) (ρ:fk->T) (parts:List (Nat×fk)):zi3 (EE ax) ρ 56 parts=aggO (zbz zS56 (zbe (ze3 (EE ax) fs56) ρ parts)):=by kernel_rfl
theorem ti56 (ax:Axs):(EE ax).ti.at 56=some ⟨.struct fs56,20,160,zS56⟩:=by kernel_rfl
theorem ygp (ax:Axs):ze3 (EE ax) fs56 0=some (0,10):=by kernel_rfl
theorem ygo (ax:Axs):ze3 (EE ax) fs56 1=some (10,10):=by kernel_rfl
theorem ti57 (ax:Axs):(EE ax).ti.at 57=some ⟨.slice 87,1,24,[.slice none 0 0]⟩:=by kernel_rfl
def zS59:List Value:=[.int .i64 0,.int .i64 0,.int .i64 0,.int .i64 0,.int .i64 0,.int .i64 0,.int .i64 0,.int .i64 0,.int .i64 0,.int .i64 0,.int .i64 0,.int .i64 0,.int .i64 0,.int .i64 0,.int .i64 0,.int .i64 0,.int .i64 0,.int .i64 0,.int .i64 0,.int .i64 0,.int .i64 0,.int .i64 0,.slice none 0 0]
theorem z8o:zft zS59=some (eo .i64 0 :: ((zA 10).l.map (eo .i64)++((zA 10).l.map (eo .i64)++[eo .i64 0,T.nils]))):=rfl
theorem zwy:zS59.length=23:=rfl
theorem yh3 (ax:Axs) (S:TS) (b off N:Nat):zaj (EE ax) S 59 0 (.ptr b off N)=bif S.has b N then some (.ptr b (off+0) N) else none:=by kernel_rfl
theorem yhn (ax:Axs) (S:TS) (l:List T):zaj (EE ax) S 59 0 (.cp l)=some (.cp (l.drop 0)):=by kernel_rfl
theorem yh2 (ax:Axs) (S:TS) (b off N:Nat):zaj (EE ax) S 59 1 (.ptr b off N)=bif S.has b N then some (.ptr b (off+1) N) else none:=by kernel_rfl
theorem yhm (ax:Axs) (S:TS) (l:List T):zaj (EE ax) S 59 1 (.cp l)=some (.cp (l.drop 1)):=by kernel_rfl
theorem yh1 (ax:Axs) (S:TS) (b off N:Nat):zaj (EE ax) S 59 2 (.ptr b off N)=bif S.has b N then some (.ptr b (off+21) N) else none:=by kernel_rfl
theorem yh0 (ax:Axs) (S:TS) (b off N:Nat):zaj (EE ax) S 59 3 (.ptr b off N)=bif S.has b N then some (.ptr b (off+22) N) else none:=by kernel_rfl
theorem yhl (ax:Axs) (S:TS) (l:List T):zaj (EE ax) S 59 3 (.cp l)=some (.cp (l.drop 22)):=by kernel_rfl
noncomputable def fs59:Array Field:=match Try.prog.underlying 59 with|some (.struct fs)=>fs|_=>#[]
theorem bt59 (ax:Axs) (ρ:fk->T) (parts:List (Nat×fk)):zi3 (EE ax) ρ 59 parts=aggO (zbz zS59 (zbe (ze3 (EE ax) fs59) ρ parts)):=by kernel_rfl
theorem ti59 (ax:Axs):(EE ax).ti.at 59=some ⟨.struct fs59,23,200,zS59⟩:=by kernel_rfl
theorem ylr (ax:Axs):ze3 (EE ax) fs59 0=some (0,1):=by kernel_rfl
theorem ylq (ax:Axs):ze3 (EE ax) fs59 1=some (1,20):=by kernel_rfl
theorem ygn (ax:Axs):ze3 (EE ax) fs59 2=some (21,1):=by kernel_rfl
theorem ti63 (ax:Axs):(EE ax).ti.at 63=some ⟨.slice 48,1,24,[.slice none 0 0]⟩:=by kernel_rfl
theorem sr63 (ax:Axs):srcT (EE ax) 63=true:=by kernel_rfl
noncomputable def fd74:TypeDesc:=match Try.prog.underlying 74 with|some d=>d|none=>.bool
theorem ti74 (ax:Axs):(EE ax).ti.at 74=some ⟨fd74,1,8,[.nilFunc]⟩:=by kernel_rfl
theorem ag74:aggT fd74=false:=by kernel_rfl
theorem ti75 (ax:Axs):(EE ax).ti.at 75=some ⟨.slice 56,1,24,[.slice none 0 0]⟩:=by kernel_rfl
theorem sr75 (ax:Axs):srcT (EE ax) 75=true:=by kernel_rfl
def zS84:List Value:=[.int .i64 0,.int .i64 0,.int .i64 0,.int .i64 0,.int .i64 0,.int .i64 0,.int .i64 0,.int .i64 0,.int .i64 0,.int .i64 0,.int .i64 0,.int .i64 0,.int .i64 0,.int .i64 0,.int .i64 0,.int .i64 0,.int .i64 0,.int .i64 0,.int .i64 0,.int .i64 0]
theorem yfx:zft zS84=some ((zA 10).l.map (eo .i64)++((zA 10).l.map (eo .i64))):=rfl
theorem z3v:zS84.length=20:=rfl
theorem yhz (ax:Axs) (S:TS) (b off N:Nat):zaj (EE ax) S 84 0 (.ptr b off N)=bif S.has b N then some (.ptr b (off+0) N) else none:=by kernel_rfl
theorem yhy (ax:Axs) (S:TS) (b off N:Nat):zaj (EE ax) S 84 1 (.ptr b off N)=bif S.has b N then some (.ptr b (off+10) N) else none:=by kernel_rfl
noncomputable def fs84:Array Field:=match Try.prog.underlying 84 with|some (.struct fs)=>fs|_=>#[]
theorem bt84 (ax:Axs) (ρ:fk->T) (parts:List (Nat×fk)):zi3 (EE ax) ρ 84 parts=aggO (zbz zS84 (zbe (ze3 (EE ax) fs84) ρ parts)):=by kernel_rfl
theorem ti84 (ax:Axs):(EE ax).ti.at 84=some ⟨.struct fs84,20,160,zS84⟩:=by kernel_rfl
theorem ygm (ax:Axs):ze3 (EE ax) fs84 0=some (0,10):=by kernel_rfl
theorem ygl (ax:Axs):ze3 (EE ax) fs84 1=some (10,10):=by kernel_rfl
def zS86:List Value:=[.int .i64 0,.int .i64 0,.int .i64 0,.int .i64 0,.int .i64 0,.int .i64 0,.int .i64 0,.int .i64 0,.int .i64 0,.int .i64 0,.int .i64 0,.int .i64 0,.int .i64 0,.int .i64 0,.int .i64 0,.int .i64 0,.int .i64 0,.int .i64 0,.int .i64 0,.int .i64 0,.int .i64 0]
theorem yfw:zft zS86=some (eo .i64 0 :: ((zA 10).l.map (eo .i64)++((zA 10).l.map (eo .i64)))):=rfl
theorem z3u:zS86.length=21:=rfl
theorem yhx (ax:Axs) (S:TS) (b off N:Nat):zaj (EE ax) S 86 0 (.ptr b off N)=bif S.has b N then some (.ptr b (off+0) N) else none:=by kernel_rfl
theorem yhw (ax:Axs) (S:TS) (b off N:Nat):zaj (EE ax) S 86 1 (.ptr b off N)=bif S.has b N then some (.ptr b (off+1) N) else none:=by kernel_rfl
noncomputable def fs86:Array Field:=match Try.prog.underlying 86 with|some (.struct fs)=>fs|_=>#[]
theorem bt86 (ax:Axs) (ρ:fk->T) (parts:List (Nat×fk)):zi3 (EE ax) ρ 86 parts=aggO (zbz zS86 (zbe (ze3 (EE ax) fs86) ρ parts)):=by kernel_rfl
theorem ti86 (ax:Axs):(EE ax).ti.at 86=some ⟨.struct fs86,21,168,zS86⟩:=by kernel_rfl
theorem ylp (ax:Axs):ze3 (EE ax) fs86 0=some (0,1):=by kernel_rfl
theorem ylo (ax:Axs):ze3 (EE ax) fs86 1=some (1,20):=by kernel_rfl
theorem ti87 (ax:Axs):(EE ax).ti.at 87=some ⟨.slice 86,1,24,[.slice none 0 0]⟩:=by kernel_rfl
theorem ti88 (ax:Axs):(EE ax).ti.at 88=some ⟨.slice 9,1,24,[.slice none 0 0]⟩:=by kernel_rfl
theorem sr88 (ax:Axs):srcT (EE ax) 88=true:=by kernel_rfl
theorem yhk (ax:Axs) (S:TS) (l:List T):zaj (EE ax) S 93 0 (.cp l)=some (.cp (l.drop 0)):=by kernel_rfl
theorem yhv (ax:Axs) (S:TS) (b off N:Nat):zaj (EE ax) S 93 2 (.ptr b off N)=bif S.has b N then some (.ptr b (off+2) N) else none:=by kernel_rfl
theorem yhu (ax:Axs) (S:TS) (b off N:Nat):zaj (EE ax) S 93 3 (.ptr b off N)=bif S.has b N then some (.ptr b (off+3) N) else none:=by kernel_rfl
noncomputable def fs93:Array Field:=match Try.prog.underlying 93 with|some (.struct fs)=>fs|_=>#[]
theorem ti93 (ax:Axs):(EE ax).ti.at 93=some ⟨.struct fs93,4,40,[.string ⟨#[]⟩,.bool false,.int .i64 0,.int .i64 0]⟩:=by kernel_rfl
theorem yht (ax:Axs) (S:TS) (b off N:Nat):zaj (EE ax) S 95 0 (.ptr b off N)=bif S.has b N then some (.ptr b (off+0) N) else none:=by kernel_rfl
theorem yhs (ax:Axs) (S:TS) (b off N:Nat):zaj (EE ax) S 95 1 (.ptr b off N)=bif S.has b N then some (.ptr b (off+1) N) else none:=by kernel_rfl
theorem yhr (ax:Axs) (S:TS) (b off N:Nat):zaj (EE ax) S 95 2 (.ptr b off N)=bif S.has b N then some (.ptr b (off+2) N) else none:=by kernel_rfl
noncomputable def fs95:Array Field:=match Try.prog.underlying 95 with|some (.struct fs)=>fs|_=>#[]
theorem ti95 (ax:Axs):(EE ax).ti.at 95=some ⟨.struct fs95,3,24,[.int .i64 0,.int .i64 0,.int .i64 0]⟩:=by kernel_rfl
theorem yhj (ax:Axs) (S:TS) (l:List T):zaj (EE ax) S 98 0 (.cp l)=some (.cp (l.drop 0)):=by kernel_rfl
theorem yhi (ax:Axs) (S:TS) (l:List T):zaj (EE ax) S 98 1 (.cp l)=some (.cp (l.drop 1)):=by kernel_rfl
noncomputable def fs98:Array Field:=match Try.prog.underlying 98 with|some (.struct fs)=>fs|_=>#[]
theorem ti98 (ax:Axs):(EE ax).ti.at 98=some ⟨.struct fs98,2,24,[.string ⟨#[]⟩,.int .i64 0]⟩:=by kernel_rfl
theorem yla (ax:Axs):(EE ax).ti.at 101=some ⟨.int .u64,1,8,[.int .u64 0]⟩:=by kernel_rfl
theorem yk9 (ax:Axs):(EE ax).ti.at 115=some ⟨.int .u64,1,8,[.int .u64 0]⟩:=by kernel_rfl
theorem yk8 (ax:Axs):(EE ax).ti.at 118=some ⟨.slice 59,1,24,[.slice none 0 0]⟩:=by kernel_rfl
theorem el28 (ax:Axs):zdh (EE ax) 28=some ⟨.struct fs59,23,200,zS59⟩:=by kernel_rfl
theorem el40 (ax:Axs):zdh (EE ax) 40=some ⟨.struct fs30,3,24,[.int .i64 0,.int .i64 0,.int .i64 0]⟩:=by kernel_rfl
theorem el48 (ax:Axs):zdh (EE ax) 48=some ⟨.int .i64,1,8,[.int .i64 0]⟩:=by kernel_rfl
theorem el57 (ax:Axs):zdh (EE ax) 57=some ⟨.slice 86,1,24,[.slice none 0 0]⟩:=by kernel_rfl
theorem el63 (ax:Axs):zdh (EE ax) 63=some ⟨.slice 3,1,24,[.slice none 0 0]⟩:=by kernel_rfl
theorem el75 (ax:Axs):zdh (EE ax) 75=some ⟨.struct fs56,20,160,zS56⟩:=by kernel_rfl
theorem el87 (ax:Axs):zdh (EE ax) 87=some ⟨.struct fs86,21,168,zS86⟩:=by kernel_rfl
theorem el88 (ax:Axs):zdh (EE ax) 88=some ⟨.string,1,16,[.string ⟨#[]⟩]⟩:=by kernel_rfl
instance:Inhabited ByteArray:=⟨⟨#[]⟩⟩
theorem zb5 {α:Type} {n:Nat} {f:α->T} (h:∀ x,(f x).ids n=true):∀ (l:List α),jl n (l.map f)=true
  |[]=>rfl
  |x :: l=>by simp only [ic,jl,h,zb5 h l,fm]
theorem zi9 {α:Type} {n:Nat} {f:α->T} (h:∀ x,jl n (f x).cells=true):∀ (l:List α),jl n (vecC f l)=true
  |[]=>rfl
  |x :: l=>by
    have:=zi9 h l;unfold vecC at this ⊢;rw [ic,im,zas,h,this];rfl
def ints (l:List Int):T:=.lst 1 (l.map (eo .i64))
theorem zoq {n:Nat} (l:List Int):(ints l).ids n=true:=zb5 (fun _=>rfl) l
theorem z0i {n:Nat} (l:List Int):jl n (l.map (eo .i64))=true:=zb5 (fun _=>rfl) l
def z22 (l:List (List Int)):T:=.lst 1 (l.map ints)
theorem z0k {n:Nat} (l:List (List Int)):(z22 l).ids n=true:=zb5 (fun x=>zoq x) l
theorem zv5 {n:Nat} (l:List (List Int)):jl n (l.map ints)=true:=zb5 (fun x=>zoq x) l
theorem z1i (x:List Int):(ints x).cells=[ints x]:=fj rfl rfl
theorem zzv (x:List Int):mv (ints x)=true:=fj rfl rfl
def strs (l:List ByteArray):T:=.lst 1 (l.map T.str)
theorem z5j {n:Nat} (l:List ByteArray):(strs l).ids n=true:=zb5 (fun _=>rfl) l
theorem z0f {n:Nat} (l:List ByteArray):jl n (l.map T.str)=true:=zb5 (fun _=>rfl) l
structure Merg where
  kind:Int
  i:Int
  k:Int
deriving Inhabited,DecidableEq
def zjo (x:Merg):T:=.agg ([eo .i64 x.kind,eo .i64 x.i,eo .i64 x.k])
theorem z73 {n:Nat} (x:Merg):jl n (zjo x).cells=true:=by simp only [zjo,iq,qf,jl,zas,zfw,fm]
theorem zot {n:Nat} (x:Merg):(zjo x).ids n=true:=by simp only [zjo,qf,jl,zas,zfw,fm]
def zn0 (x:Merg):List Value:=[iz .i64 x.kind,iz .i64 x.i,iz .i64 x.k]
def z2b:List CK:=[CK.int .i64,CK.int .i64,CK.int .i64]
theorem zxh (x:Merg):zfv ([eo .i64 x.kind,eo .i64 x.i,eo .i64 x.k])=some (zn0 x):=(zko rfl (zko rfl (zko rfl rfl)))
theorem zx6 (x:Merg):zd7 z2b (zn0 x)=true:=(zo0 (z6m _ _) (zo0 (z6m _ _) (zo0 (z6m _ _) rfl)))
theorem yfu (a b:Merg):a=b↔a.kind=b.kind/\a.i=b.i/\a.k=b.k:=by cases a;cases b;simp
theorem yce (a b:Merg):eqVs (zn0 a) (zn0 b)=decide (a=b):=by
  rw [ld];simp [zn0,z3c,zya,eqVs,zma,and_assoc,yfu]
structure Pat where
  mask:Ar 10
  bits:Ar 10
deriving Inhabited,DecidableEq
def ePat (x:Pat):T:=.agg (x.mask.l.map (eo .i64)++(x.bits.l.map (eo .i64)))
theorem ybx {n:Nat} (x:Pat):jl n (ePat x).cells=true:=by simp only [ePat,iq,qf,jl,zas,zfw,fm]
theorem zrb {n:Nat} (x:Pat):(ePat x).ids n=true:=by simp only [ePat,qf,jl,zas,zfw,fm]
theorem zbv (x:Pat):(ePat x).cells.length=20:=by simp only [ePat,iq,fq,iu,zsv,fc,Ar.len]
theorem z40 (x:Pat):(ePat x).cells.all mv=true:=by simp only [ePat,iq,i9,List.all_nil,zyl,zpy,zq9,zoi,zq7,zq8,fm]
theorem z4p (n:Nat):rep n ((zA 10).l.map (eo .i64)++((zA 10).l.map (eo .i64)))=vecC ePat (fl n (⟨zA 10,zA 10⟩:Pat)):=yad (f:=ePat) (⟨zA 10,zA 10⟩:Pat) n
def zrm (x:Pat):List Value:=x.mask.l.map (iz .i64)++(x.bits.l.map (iz .i64))
def z9o:List CK:=fl 10 (CK.int .i64)++(fl 10 (CK.int .i64))
theorem z39 (x:Pat):zfv (x.mask.l.map (eo .i64)++(x.bits.l.map (eo .i64)))=some (zrm x):=(zkp (zia _) (zia _))
theorem z52 (x:Pat):zd7 z9o (zrm x)=true:=(z29 _ (z51 _))
theorem ydf (a b:Pat):a=b↔a.mask=b.mask/\a.bits=b.bits:=by cases a;cases b;simp
theorem yid (a b:Pat):eqVs (zrm a) (zrm b)=decide (a=b):=by
  rw [ld];simp [zrm,z3c,zya,eqVs,zma,and_assoc,ydf]
structure Alt where
  link:Int
  mod:Pat
deriving Inhabited,DecidableEq
def eAlt (x:Alt):T:=.agg (eo .i64 x.link :: (x.mod.mask.l.map (eo .i64)++(x.mod.bits.l.map (eo .i64))))
theorem yby {n:Nat} (x:Alt):jl n (eAlt x).cells=true:=by simp only [eAlt,iq,qf,jl,zas,zfw,fm]
theorem zrc {n:Nat} (x:Alt):(eAlt x).ids n=true:=by simp only [eAlt,qf,jl,zas,zfw,fm]
theorem zfs (x:Alt):(eAlt x).cells.length=21:=by simp only [eAlt,iq,fq,iu,zsv,fc,Ar.len]
def zrn (x:Alt):List Value:=iz .i64 x.link :: (x.mod.mask.l.map (iz .i64)++(x.mod.bits.l.map (iz .i64)))
def z9p:List CK:=CK.int .i64 :: (fl 10 (CK.int .i64)++(fl 10 (CK.int .i64)))
theorem z4a (x:Alt):zfv (eo .i64 x.link :: (x.mod.mask.l.map (eo .i64)++(x.mod.bits.l.map (eo .i64))))=some (zrn x):=(zko rfl (zkp (zia _) (zia _)))
theorem z53 (x:Alt):zd7 z9p (zrn x)=true:=(zo0 (z6m _ _) (z29 _ (z51 _)))
theorem yk2 (a b:Alt):a=b↔a.link=b.link/\a.mod=b.mod:=by cases a;cases b;simp
theorem yie (a b:Alt):eqVs (zrn a) (zrn b)=decide (a=b):=by
  rw [ld];simp [zrn,z3c,zya,eqVs,zma,and_assoc,ydf,yk2]
def lAlt (l:List Alt):T:=.lst 21 (l.map eAlt)
theorem zra {n:Nat} (l:List Alt):(lAlt l).ids n=true:=zb5 (fun x=>zrc x) l
theorem z0h {n:Nat} (l:List Alt):jl n (l.map eAlt)=true:=zb5 (fun x=>zrc x) l
theorem z0e {n:Nat} (l:List Alt):jl n (vecC eAlt l)=true:=zi9 (fun x=>yby x) l
def zbs (l:List (List Alt)):T:=.lst 1 (l.map lAlt)
theorem zop {n:Nat} (l:List (List Alt)):(zbs l).ids n=true:=zb5 (fun x=>zra x) l
theorem zv6 {n:Nat} (l:List (List Alt)):jl n (l.map lAlt)=true:=zb5 (fun x=>zra x) l
theorem z1h (x:List Alt):(lAlt x).cells=[lAlt x]:=fj rfl rfl
theorem zzu (x:List Alt):mv (lAlt x)=true:=fj rfl rfl
structure Rule where
  prio:Int
  mat:Pat
  step:Int
  outs:List (List Alt)
deriving Inhabited,DecidableEq
def zao (x:Rule):T:=.agg (eo .i64 x.prio :: (x.mat.mask.l.map (eo .i64)++(x.mat.bits.l.map (eo .i64)++[eo .i64 x.step,zbs x.outs])))
theorem z71 {n:Nat} (x:Rule):jl n (zao x).cells=true:=by simp only [zao,iq,qf,jl,zas,zfw,zop,fm]
theorem zor {n:Nat} (x:Rule):(zao x).ids n=true:=by simp only [zao,qf,jl,zas,zfw,zop,fm]
theorem zbi (x:Rule):(zao x).cells.length=23:=by simp only [zao,iq,fq,iu,zsv,fc,Ar.len]
theorem zoh (x:Rule):(zao x).cells.all mv=true:=by simp only [zao,iq,i9,List.all_nil,zyl,zpy,zq9,zoi,zq7,zq8,fm,zbs.eq_1]
structure Node where
  name:ByteArray
  box:Bool
  rules:Int
  entries:Int
deriving Inhabited,DecidableEq
def zo6 (x:Node):T:=.agg ([T.str x.name,T.bool x.box,eo .i64 x.rules,eo .i64 x.entries])
theorem z72 {n:Nat} (x:Node):jl n (zo6 x).cells=true:=by simp only [zo6,iq,qf,jl,zas,zfw,fm]
theorem zos {n:Nat} (x:Node):(zo6 x).ids n=true:=by simp only [zo6,qf,jl,zas,zfw,fm]
structure Link where
  frm:Int
  to:Int
  cap:Int
deriving Inhabited,DecidableEq
def zo7 (x:Link):T:=.agg ([eo .i64 x.frm,eo .i64 x.to,eo .i64 x.cap])
theorem z74 {n:Nat} (x:Link):jl n (zo7 x).cells=true:=by simp only [zo7,iq,qf,jl,zas,zfw,fm]
theorem zou {n:Nat} (x:Link):(zo7 x).ids n=true:=by simp only [zo7,qf,jl,zas,zfw,fm]
structure Edge where
  name:ByteArray
  node:Int
deriving Inhabited,DecidableEq
def zo8 (x:Edge):T:=.agg ([T.str x.name,eo .i64 x.node])
theorem z75 {n:Nat} (x:Edge):jl n (zo8 x).cells=true:=by simp only [zo8,iq,qf,jl,zas,zfw,fm]
theorem zov {n:Nat} (x:Edge):(zo8 x).ids n=true:=by simp only [zo8,qf,jl,zas,zfw,fm]
def zdt (l:List Node):T:=.lst 4 (l.map zo6)
theorem zs1 {n:Nat} (l:List Node):(zdt l).ids n=true:=zb5 (fun x=>zos x) l
theorem zv2 {n:Nat} (l:List Node):jl n (l.map zo6)=true:=zb5 (fun x=>zos x) l
theorem zvx {n:Nat} (l:List Node):jl n (vecC zo6 l)=true:=zi9 (fun x=>z72 x) l
def zdu (l:List Link):T:=.lst 3 (l.map zo7)
theorem zs3 {n:Nat} (l:List Link):(zdu l).ids n=true:=zb5 (fun x=>zou x) l
theorem zv4 {n:Nat} (l:List Link):jl n (l.map zo7)=true:=zb5 (fun x=>zou x) l
theorem zvz {n:Nat} (l:List Link):jl n (vecC zo7 l)=true:=zi9 (fun x=>z74 x) l
def zdv (l:List Edge):T:=.lst 2 (l.map zo8)
theorem zs4 {n:Nat} (l:List Edge):(zdv l).ids n=true:=zb5 (fun x=>zov x) l
theorem zv7 {n:Nat} (l:List Edge):jl n (l.map zo8)=true:=zb5 (fun x=>zov x) l
theorem zv0 {n:Nat} (l:List Edge):jl n (vecC zo8 l)=true:=zi9 (fun x=>z75 x) l
structure Net where
  nodes:List Node
  links:List Link
  edges:List Edge
deriving Inhabited,DecidableEq
def eNet (x:Net):T:=.agg ([zdt x.nodes,zdu x.links,zdv x.edges])
theorem z5m {n:Nat} (x:Net):(eNet x).ids n=true:=by simp only [eNet,qf,jl,zas,zfw,zs1,zs3,zs4,fm]
def zah (l:List Rule):T:=.lst 23 (l.map zao)
theorem zs0 {n:Nat} (l:List Rule):(zah l).ids n=true:=zb5 (fun x=>zor x) l
theorem zv1 {n:Nat} (l:List Rule):jl n (l.map zao)=true:=zb5 (fun x=>zor x) l
theorem zvw {n:Nat} (l:List Rule):jl n (vecC zao l)=true:=zi9 (fun x=>z71 x) l
def zlb (l:List Merg):T:=.lst 3 (l.map zjo)
theorem z0j {n:Nat} (l:List Merg):(zlb l).ids n=true:=zb5 (fun x=>zot x) l
theorem zv3 {n:Nat} (l:List Merg):jl n (l.map zjo)=true:=zb5 (fun x=>zot x) l
theorem zvy {n:Nat} (l:List Merg):jl n (vecC zjo l)=true:=zi9 (fun x=>z73 x) l
def lPat (l:List Pat):T:=.lst 20 (l.map ePat)
theorem z5l {n:Nat} (l:List Pat):(lPat l).ids n=true:=zb5 (fun x=>zrb x) l
theorem z0g {n:Nat} (l:List Pat):jl n (l.map ePat)=true:=zb5 (fun x=>zrb x) l
theorem z0d {n:Nat} (l:List Pat):jl n (vecC ePat l)=true:=zi9 (fun x=>ybx x) l
theorem aq30 (ax:Axs) (a b:Merg):(∀ (S:TS) (x y:fk),tBin Try.prog (EE ax) S 30 .eql x y (.agg ([eo .i64 a.kind,eo .i64 a.i,eo .i64 a.k])) (.agg ([eo .i64 b.kind,eo .i64 b.i,eo .i64 b.k]))=some (.bool (decide (a=b))))/\(∀ (S:TS) (x y:fk),tBin Try.prog (EE ax) S 30 .neq x y (.agg ([eo .i64 a.kind,eo .i64 a.i,eo .i64 a.k])) (.agg ([eo .i64 b.kind,eo .i64 b.i,eo .i64 b.k]))=some (.bool (!(decide (a=b))))):=⟨fun _ _ _=>(zpi (sh:=z2b) (by kernel_rfl) (by kernel_rfl) (zxh a) (zxh b) (zx6 a) (zx6 b) (yce a b)).1,fun _ _ _=>(zpi (sh:=z2b) (by kernel_rfl) (by kernel_rfl) (zxh a) (zxh b) (zx6 a) (zx6 b) (yce a b)).2⟩
theorem aq56 (ax:Axs) (a b:Pat):(∀ (S:TS) (x y:fk),tBin Try.prog (EE ax) S 56 .eql x y (.agg (a.mask.l.map (eo .i64)++(a.bits.l.map (eo .i64)))) (.agg (b.mask.l.map (eo .i64)++(b.bits.l.map (eo .i64))))=some (.bool (decide (a=b))))/\(∀ (S:TS) (x y:fk),tBin Try.prog (EE ax) S 56 .neq x y (.agg (a.mask.l.map (eo .i64)++(a.bits.l.map (eo .i64)))) (.agg (b.mask.l.map (eo .i64)++(b.bits.l.map (eo .i64))))=some (.bool (!(decide (a=b))))):=⟨fun _ _ _=>(zpi (sh:=z9o) (by kernel_rfl) (by kernel_rfl) (z39 a) (z39 b) (z52 a) (z52 b) (yid a b)).1,fun _ _ _=>(zpi (sh:=z9o) (by kernel_rfl) (by kernel_rfl) (z39 a) (z39 b) (z52 a) (z52 b) (yid a b)).2⟩
theorem aq86 (ax:Axs) (a b:Alt):(∀ (S:TS) (x y:fk),tBin Try.prog (EE ax) S 86 .eql x y (.agg (eo .i64 a.link :: (a.mod.mask.l.map (eo .i64)++(a.mod.bits.l.map (eo .i64))))) (.agg (eo .i64 b.link :: (b.mod.mask.l.map (eo .i64)++(b.mod.bits.l.map (eo .i64)))))=some (.bool (decide (a=b))))/\(∀ (S:TS) (x y:fk),tBin Try.prog (EE ax) S 86 .neq x y (.agg (eo .i64 a.link :: (a.mod.mask.l.map (eo .i64)++(a.mod.bits.l.map (eo .i64))))) (.agg (eo .i64 b.link :: (b.mod.mask.l.map (eo .i64)++(b.mod.bits.l.map (eo .i64)))))=some (.bool (!(decide (a=b))))):=⟨fun _ _ _=>(zpi (sh:=z9p) (by kernel_rfl) (by kernel_rfl) (z4a a) (z4a b) (z53 a) (z53 b) (yie a b)).1,fun _ _ _=>(zpi (sh:=z9p) (by kernel_rfl) (by kernel_rfl) (z4a a) (z4a b) (z53 a) (z53 b) (yie a b)).2⟩
theorem eqA:type_of% (eh (eh (eh (eh (@ints.eq_1) (eh (@z22.eq_1) (@z1i))) (eh (@zzv) (eh (@strs.eq_1) (@zjo.eq_1)))) (eh (eh (@ePat.eq_1) (eh (@eAlt.eq_1) (@lAlt.eq_1))) (eh (@zbs.eq_1) (eh (@z1h) (@zzu))))) (eh (eh (eh (@zao.eq_1) (eh (@zo6.eq_1) (@zo7.eq_1))) (eh (@zo8.eq_1) (eh (@zdt.eq_1) (@zdu.eq_1)))) (eh (eh (@zdv.eq_1) (eh (@eNet.eq_1) (@zah.eq_1))) (eh (@zlb.eq_1) (eh (@lPat.eq_1) (@yfy)))))):=eh (eh (eh (eh (@ints.eq_1) (eh (@z22.eq_1) (@z1i))) (eh (@zzv) (eh (@strs.eq_1) (@zjo.eq_1)))) (eh (eh (@ePat.eq_1) (eh (@eAlt.eq_1) (@lAlt.eq_1))) (eh (@zbs.eq_1) (eh (@z1h) (@zzu))))) (eh (eh (eh (@zao.eq_1) (eh (@zo6.eq_1) (@zo7.eq_1))) (eh (@zo8.eq_1) (eh (@zdt.eq_1) (@zdu.eq_1)))) (eh (eh (@zdv.eq_1) (eh (@eNet.eq_1) (@zah.eq_1))) (eh (@zlb.eq_1) (eh (@lPat.eq_1) (@yfy)))))
theorem eqB:type_of% (eh (eh (@z3w) (eh (@z8o) (@zwy))) (eh (eh (@yfx) (@z3v)) (eh (@yfw) (@z3u)))):=eh (eh (@z3w) (eh (@z8o) (@zwy))) (eh (eh (@yfx) (@z3v)) (eh (@yfw) (@z3u)))
theorem eqsA:type_of% (eh (eh (eh (eh (@z2c) (eh (@sgT) (@sgT1))) (eh (@sgD) (eh (@sgD1) (@sgG)))) (eh (eh (@splA) (eh (@ylj) (@yli))) (eh (@splS) (eh (@yc7) (@z1r))))) (eh (eh (eh (@zsv) (eh (@zyl) (@zyu))) (eh (@z02) (eh (@ygz) (@yl8)))) (eh (eh (@ygy) (eh (@ybp) (@yci))) (eh (@yk3) (eh (@Ar.len) (@zpy)))))):=eh (eh (eh (eh (@z2c) (eh (@sgT) (@sgT1))) (eh (@sgD) (eh (@sgD1) (@sgG)))) (eh (eh (@splA) (eh (@ylj) (@yli))) (eh (@splS) (eh (@yc7) (@z1r))))) (eh (eh (eh (@zsv) (eh (@zyl) (@zyu))) (eh (@z02) (eh (@ygz) (@yl8)))) (eh (eh (@ygy) (eh (@ybp) (@yci))) (eh (@yk3) (eh (@Ar.len) (@zpy)))))
theorem eqsB:type_of% (eh (eh (eh (@z1l) (@zym)) (eh (@yir) (@sub0))) (eh (eh (@z34) (@zyg)) (eh (@z80) (eh (@yis) (@ydb))))):=eh (eh (eh (@z1l) (@zym)) (eh (@yir) (@sub0))) (eh (eh (@z34) (@zyg)) (eh (@z80) (eh (@yis) (@ydb))))
theorem idsA:type_of% (eh (eh (eh (eh (@zoq) (eh (@z0i) (@z0k))) (eh (@zv5) (eh (@z5j) (@z0f)))) (eh (eh (@zot) (eh (@zrb) (@zrc))) (eh (@zra) (eh (@z0h) (@z0e))))) (eh (eh (eh (@zop) (eh (@zv6) (@zor))) (eh (@zos) (eh (@zou) (@zov)))) (eh (eh (@zs1) (eh (@zv2) (@zvx))) (eh (@zs3) (eh (@zv4) (@zvz)))))):=eh (eh (eh (eh (@zoq) (eh (@z0i) (@z0k))) (eh (@zv5) (eh (@z5j) (@z0f)))) (eh (eh (@zot) (eh (@zrb) (@zrc))) (eh (@zra) (eh (@z0h) (@z0e))))) (eh (eh (eh (@zop) (eh (@zv6) (@zor))) (eh (@zos) (eh (@zou) (@zov)))) (eh (eh (@zs1) (eh (@zv2) (@zvx))) (eh (@zs3) (eh (@zv4) (@zvz)))))
theorem idsB:type_of% (eh (eh (eh (eh (@zs4) (@zv7)) (eh (@zv0) (@z5m))) (eh (eh (@zs0) (@zv1)) (eh (@zvw) (@z0j)))) (eh (eh (eh (@zv3) (@zvy)) (eh (@z5l) (@z0g))) (eh (eh (@z0d) (@yg2)) (eh (@zfw) (eh (@ybz) (@zas)))))):=eh (eh (eh (eh (@zs4) (@zv7)) (eh (@zv0) (@z5m))) (eh (eh (@zs0) (@zv1)) (eh (@zvw) (@z0j)))) (eh (eh (eh (@zv3) (@zvy)) (eh (@z5l) (@z0g))) (eh (eh (@z0d) (@yg2)) (eh (@zfw) (eh (@ybz) (@zas)))))
structure yky (ax:Axs):Prop where
  no:∀ f,fg f 9=false->ax f=none
  san:Pure Try.prog (EE ax) [] 9 [] (.bool true)
theorem Pure.clr {P:fx} {Γ:Env} {GL:List (Nat×List Value)} {f:FuncId} {args:List T} {v v2:T} {S:TS} (k:Pure P Γ GL f args v) (e:v=v2):zan P Γ GL f args S v2:=e ▸ k.call S
mutual
inductive Rt (W:World):T->Value->Prop
  |int (k n):Rt W (.int k n) (.int k n)
  |bool (b):Rt W (.bool b) (.bool b)
  |str (b):Rt W (.str b) (.string b)
  |agg {l cs}:RtL W l cs->Rt W (.agg l) (.agg ⟨cs⟩)
  |nil {e}:Rt W (.lst e []) (.slice none 0 0)
  |zero {e a}:0<e->0<W.heap.size->Rt W (.lst e []) (.slice (some a) 0 0)
  |lst {e l b off cap cs}:RtL W (l.flatMap iq) cs->(∀ t,t∈l->t.cells.length=e)->0<e->l.length<=cap->cap<=maxLen->(W.cell? ⟨b,off,none⟩).isSome=true->(∀ (j:Nat) u,cs[j]?=some u->W.cell? ⟨b,off+j,none⟩=some u)->Rt W (.lst e l) (.slice (some ⟨b,off,none⟩) l.length cap)
inductive RtL (W:World):List T->List Value->Prop
  |nil:RtL W [] []
  |cons {t v l vs}:Rt W t v->RtL W l vs->RtL W (t :: l) (v :: vs)
end
section
variable {W:World} {N:Nat} {G:List Nat} {K:List (Nat×List Value)}
theorem RtL.len:∀ {l:List T} {vs:List Value},RtL W l vs->l.length=vs.length
  |_,_,.nil=>rfl
  |_,_,.cons _ h=>by rw [fq,fq,h.len]
theorem z3l {b j k:Nat} (h:(W.cell? ⟨b,k,none⟩).isSome=true) (hj:j<=k):(W.cell? ⟨b,j,none⟩).isSome=true:=by
  unfold qz at h ⊢;simp only at h ⊢;split at h
  . rename_i c _ _ hb;simp only [Option.isSome_none,Bool.false_eq_true,if_false] at h ⊢
    have:k<c.size:=by
      by_cases hk:k<c.size
      . exact hk
      . rw [Array.getElem?_eq_none (by omega)] at h;simp at h
    rw [jx (by omega)];rfl
  . simp at h
theorem yfe {b k:Nat} (h:(W.cell? ⟨b,k,none⟩).isSome=true):b<W.heap.size:=by
  unfold qz at h;simp only at h;by_cases hb:b<W.heap.size
  . exact hb
  . rw [Array.getElem?_eq_none (by omega)] at h;simp at h
theorem zsb {u:Nat} {m:List (Nat×List Value)}:∀ {l:List (Nat×List Value)},(∀ p,p∈l->p.1≠u)->zbm (l++m) u=zbm m u
  |[],_=>rfl
  |p :: l,h=>by
    show (bif fg p.1 u then some p.2 else zbm (l++m) u)=_;rw [zh2 (h p (by simp)),cond_false];exact zsb fun q hq=>h q (by simp [hq])
theorem zr1 {f:Nat} {q:Seg}:∀ {F:List Seg} {i j:Nat},F[i]?=some q->q.b=f->zbm (zjf N f j F) ((N+(j+i))*1024)=some q.cs
  |[],i,j,h,_=>by simp at h
  |p :: F,0,j,h,hb=>by
    simp only [gc,ei] at h;subst h;unfold zjf;rw [zAc hb]
    simp [zbm,Nat.beq_refl]
  |p :: F,i+1,j,h,hb=>by
    have ih:=zr1 (F:=F) (i:=i) (j:=j+1) (by simpa using h) hb;rw [show j+1+i=j+(i+1) by omega] at ih;unfold zjf;split
    . unfold zbm
      have:fg ((N+j)*1024) ((N+(j+(i+1)))*1024)=false:=by
        cases hq:fg ((N+j)*1024) ((N+(j+(i+1)))*1024) with
        |false=>rfl
        |true=>have:=et hq;omega
      rw [this];exact ih
    . exact ih
def Low (N:Nat):Nat->Prop:=fun f=>f<N
structure En (W:World) (N:Nat) (G:List Nat) (K:List (Nat×List Value)) (pre A:List Seg) (l:List T) (xs vs:List Value):Prop where
  vr:∀ post,RL (VR (sgS N G K (pre++A++post))) xs vs
  vl:∀ post,VL (Low N) bx0 (famS N K (pre++A++post)) l xs
  at_:∀ post q,q∈A->ymx (sgS N G K (pre++A++post)) W q
theorem ylk (hK:∀ p,p∈K->has G p.1=true) (hG:∀ g,has G g=true->g<N) {F:List Seg} {i:Nat} {q:Seg} (hq:F[i]?=some q) (hb:q.b<N) :
    sgS N G K F q.b ((N+i)*1024)=some (q.b,q.o,q.o+q.cs.length)/\zbm (famS N K F q.b).rows ((N+i)*1024)=some q.cs:=by
  constructor
  . unfold sgS;rw [zAd (by rintro ⟨_,h⟩;omega),zAc (by omega)];have e:(N+i)*1024 / 1024 - N=i:=by omega
    rw [e,hq];show (if q.b=q.b then _ else _)=_;rw [zAc rfl]
  . show zbm ((famK K q.b).rows++zjf N q.b 0 F) _=_;rw [zsb fun p hp=>?_]
    . have:=zr1 (N:=N) (j:=0) hq rfl
      rwa [ig] at this
    . obtain ⟨h1,h2,_⟩:=zte hp;have:=hG _ (hK _ h2);rw [h1];simp only at this;omega
theorem ybv {α:Type} (pre A post:List α) (q:α):(pre++(A++[q])++post)[pre.length+A.length]?=some q:=by
  rw [fy,fy,gp (by omega),gp (by omega)];simp
mutual
theorem ent (hN:N=W.heap.size) (hK:∀ p,p∈K->has G p.1=true) (hG:∀ g,has G g=true->g<N):∀ {t:T} {v:Value},Rt W t v->∀ pre,∃ A x,En W N G K pre A [t] [x] [v]
  |_,_,.int k n,pre=>⟨[],.int k n,⟨fun _=>⟨zhi 3 rfl,trivial⟩,fun _=>.cons (.int k n) .nil,fun _ q hq=>by simp at hq⟩⟩
  |_,_,.bool b,pre=>⟨[],.bool b,⟨fun _=>⟨zhi 3 rfl,trivial⟩,fun _=>.cons (.bool b) .nil,fun _ q hq=>by simp at hq⟩⟩
  |_,_,.str b,pre=>⟨[],.string b,⟨fun _=>⟨zhi 3 rfl,trivial⟩,fun _=>.cons (.str b) .nil,fun _ q hq=>by simp at hq⟩⟩
  |_,_,.agg h,pre=>by
    obtain ⟨A,xs,k⟩:=entL hN hK hG h pre;exact ⟨A,.agg ⟨xs⟩,fun post=>⟨VR.mk ⟨_,rfl,k.vr post⟩,trivial⟩,fun post=>.cons (.agg (k.vl post)) .nil,k.at_⟩
  |_,_,.nil,pre=>⟨[],.slice none 0 0,⟨fun _=>⟨VR.mk ⟨rfl,rfl,rfl⟩,trivial⟩,fun _=>.cons .lnil .nil,fun _ q hq=>by simp at hq⟩⟩
  |.lst e _,.slice _ _ _,@Rt.zero _ _ a he hs,pre=>by
    have hi:=fun post=>ybv pre [] post (⟨0,0,[]⟩:Seg);have h0:∀ post,_:=fun post=>ylk (q:=(⟨0,0,[]⟩:Seg)) hK hG (hi post) (by show 0<N;omega);refine ⟨[⟨0,0,[]⟩],.slice (some (mkA 0 ((N+(pre.length+0))*1024) 0)) 0 0,⟨fun post=>⟨VR.mk ⟨0,0,_,(h0 post).1,a,0,rfl,fd _,fd _,ik _,fun h=>absurd rfl h,fun _=>rfl,fun _ h=>absurd rfl h⟩,trivial⟩,fun post=>.cons ?_ .nil,fun post q hq=>?_⟩⟩
    . exact .lst (l:=[]) (cs:=[]) (show (0:Nat)<N by omega) (h0 post).2 .nil (fun t ht=>by simp at ht) he rfl (.inl (by omega)) (fd _)
    . simp only [ke] at hq;subst hq;exact ⟨hs,fun j hj=>by simp at hj,fun j u hu=>by simp at hu⟩
  |.lst e l,.slice _ _ cap,@Rt.lst _ _ _ b off _ cs h hs he hl hm hc hcell,pre=>by
    obtain ⟨A,xs,k⟩:=entL hN hK hG h pre;have hxl:xs.length=cs.length:=(k.vr []).length;have hb:b<W.heap.size:=yfe hc;have hi:=fun post=>ybv pre A post (⟨b,off,xs⟩:Seg);have h0:=fun post=>ylk (q:=(⟨b,off,xs⟩:Seg)) hK hG (hi post) (by show b<N;omega);have hF:∀ post,pre++(A++[⟨b,off,xs⟩])++post=pre++A++((⟨b,off,xs⟩:Seg) :: post):=fun post=>by simp
    refine ⟨A++[⟨b,off,xs⟩],.slice (some (mkA b ((N+(pre.length+A.length))*1024) 0)) l.length cap,⟨fun post=>⟨VR.mk ⟨b,off,_,(h0 post).1,⟨b,off,none⟩,cap,rfl,hl,fd _,hm,fun _=>rfl,fun _=>rfl,fun ht=>?_⟩,trivial⟩,fun post=>.cons ?_ .nil,fun post q hq=>?_⟩⟩
    . rw [zim] at ht;omega
    . refine .lst (cs:=xs) (show b<N by omega) (h0 post).2 ?_ hs he (by rw [ge,List.take_length]) (.inl (by omega)) hl;rw [hF];exact k.vl _
    . rcases iv.1 hq with hq|hq
      . rw [hF];exact k.at_ _ q hq
      . simp only [ke] at hq;subst hq;refine ⟨hb,fun j hj=>?_,fun j u hu=>?_⟩
        . have hj:j<off+xs.length:=hj;by_cases h1:j<=off
          . exact z3l hc h1
          . have hjc:j - off<cs.length:=by omega
            have:=hcell (j - off) _ (fb hjc);rw [show off+(j - off)=j by omega] at this;rw [this];rfl
        . have hju:j<xs.length:=(fo.1 hu).1;have hu:xs[j]?=some u:=hu;have hcs:=fb (l:=cs) (i:=j) (by omega);refine ⟨_,hcell j _ hcs,?_⟩;rw [hF];obtain ⟨y,hy1,hy2⟩:=(k.vr (⟨b,off,xs⟩ :: post)).at hu;rw [hcs] at hy1;cases hy1;exact hy2
theorem entL (hN:N=W.heap.size) (hK:∀ p,p∈K->has G p.1=true) (hG:∀ g,has G g=true->g<N):∀ {l:List T} {vs:List Value},RtL W l vs->∀ pre,∃ A xs,En W N G K pre A l xs vs
  |_,_,.nil,pre=>⟨[],[],⟨fun _=>trivial,fun _=>.nil,fun _ q hq=>by simp at hq⟩⟩
  |_,_,.cons h1 h2,pre=>by
    obtain ⟨A1,x,k1⟩:=ent hN hK hG h1 pre;obtain ⟨A2,xs,k2⟩:=entL hN hK hG h2 (pre++A1);have e1:∀ post,pre++(A1++A2)++post=pre++A1++(A2++post):=fun post=>by simp
    have e2:∀ post,pre++(A1++A2)++post=pre++A1++A2++post:=fun post=>by simp
    refine ⟨A1++A2,x :: xs,⟨fun post=>⟨?_,?_⟩,fun post=>?_,fun post q hq=>?_⟩⟩
    . rw [e1];exact (k1.vr _).1
    . rw [e2];exact k2.vr _
    . have a:=k1.vl (A2++post);have b:=k2.vl post;rw [<- e1] at a;rw [<- e2] at b
      cases a with
      |cons a _=>exact .cons a b
    . rcases iv.1 hq with hq|hq
      . rw [e1];exact k1.at_ _ q hq
      . rw [e2];exact k2.at_ _ q hq
end
end
inductive Sh where
  |int (k:gu)
  |bool
  |str
  |slice (e:Sh)
  |struct (l:List Sh)
  |arr (k:gu) (n:Nat)
mutual
def Sh.sz:Sh->Nat
  |.struct l=>Sh.szL l
  |.arr _ n=>n
  |_=>1
def Sh.szL:List Sh->Nat
  |[]=>0
  |s :: l=>s.sz+Sh.szL l
end
mutual
def shOk (P:fx):Sh->fw->Bool
  |.int k,t=>match P.underlying t with|some (.int k')=>decide (k=k')|_=>false
  |.bool,t=>match P.underlying t with|some .bool=>true|_=>false
  |.str,t=>match P.underlying t with|some .string=>true|_=>false
  |.slice s,t=>match P.underlying t with|some (.slice e)=>fg (P.cellsOf e) s.sz && (Nat.blt 0 s.sz && shOk P s e)|_=>false
  |.struct l,t=>match P.underlying t with|some (.struct fs)=>fg (P.cellsOf t) (Sh.szL l) && z7f P l fs.toList 0|_=>false
  |.arr k n,t=>match P.underlying t with|some (.array m e)=>fg m n && (fg (P.cellsOf t) n && (fg (P.cellsOf e) 1 && (match P.underlying e with|some (.int k')=>decide (k=k')|_=>false)))|_=>false
def z7f (P:fx):List Sh->List Field->Nat->Bool
  |[],[],_=>true
  |s :: l,f :: fs,o=>fg f.offset o && (fg (P.cellsOf f.type) s.sz && (shOk P s f.type && z7f P l fs (o+s.sz)))
  |_,_,_=>false
end
mutual
def conf:Sh->T->Prop
  |.int k,t=>∃ n,t=.int k n/\(Lit.int k n).wf=true
  |.bool,t=>∃ b,t=.bool b
  |.str,t=>∃ s,t=.str s/\s.size<=maxLen
  |.slice e,t=>∃ l,t=.lst e.sz l/\l.length<=maxLen/\∀ x,x∈l->conf e x
  |.struct l,t=>∃ cs,t=.agg cs/\ykf l cs
  |.arr k n,t=>∃ a:Ar n,t=.agg (a.l.map (eo k))/\∀ x,x∈a.l->(Lit.int k x).wf=true
def ykf:List Sh->List T->Prop
  |[],cs=>cs=[]
  |s :: l,cs=>∃ x r,cs=x.cells++r/\conf s x/\ykf l r
end
theorem ycu {α:Type} {p:Nat->α->Prop}:∀ n,(∀ i,i<n->∃ x,p i x)->∃ l:List α,l.length=n/\∀ i (hi:i<l.length),p i l[i]:=by
  intro n
  induction n with
  |zero=>intro _;exact ⟨[],rfl,fun i hi=>by simp at hi⟩
  |succ n ih =>
    intro h;obtain ⟨l,hl,hp⟩:=ih (fun i hi=>h i (by omega));obtain ⟨x,hx⟩:=h n (by omega);refine ⟨l++[x],by simp [hl],fun i hi=>?_⟩;by_cases hin:i<l.length
    . rw [List.getElem_append_left hin];exact hp i hin
    . have:i=l.length:=by simp at hi;omega
      subst this;rw [List.getElem_append_right (fd _)];simpa [hl] using hx
section
variable {H:Type} {enc:fw×Value->H} {P:fx} {W:World}
theorem RtL.append:∀ {l l2:List T} {vs vs2:List Value},RtL W l vs->RtL W l2 vs2->RtL W (l++l2) (vs++vs2)
  |_,_,_,_,.nil,k=>k
  |_,_,_,_,.cons h k,k2=>.cons h (k.append k2)
theorem RtL.flat:∀ {l:List (T×List Value)},(∀ p,p∈l->RtL W p.1.cells p.2)->RtL W ((l.map (·.1)).flatMap iq) (l.map (·.2)).flatten
  |[],_=>.nil
  |p :: l,h=>by
    rw [ic,im,ic,gj];exact (h p (by simp)).append (RtL.flat fun q hq=>h q (by simp [hq]))
theorem zwb {b k:Nat}:∀ {l:List (List Value)} {o:Nat},(∀ c,c∈l->c.length=k)->(∀ (i:Nat) c,l[i]?=some c->∀ j,j<k->W.cell? ⟨b,o+i*k+j,none⟩=c[j]?)->∀ (j:Nat) u,l.flatten[j]?=some u->W.cell? ⟨b,o+j,none⟩=some u
  |[],o,_,_,j,u,h=>by simp at h
  |c :: l,o,hl,hc,j,u,h=>by
    have hck:=hl c (by simp);rw [gj] at h;by_cases hj:j<c.length
    . rw [fp hj] at h;have:=hc 0 c rfl j (by omega);rw [Nat.zero_mul,jc] at this;rw [this,h]
    . rw [gp (by omega)] at h
      have:=zwb (o:=o+k) (fun c hc=>hl c (by simp [hc])) (fun i c' hi j hj=>by
        have:=hc (i+1) c' (by simpa using hi) j hj;rw [show o+(i+1)*k+j=o+k+i*k+j by rw [i8];omega] at this
        exact this) (j - c.length) u h
      rw [show o+k+(j - c.length)=o+j by omega] at this;exact this
def ztv (W:World) (cs:List Value):Prop:=∀ v,v∈cs->(∃ a n c,v=.slice (some a) n c)->0<W.heap.size
theorem ztv.of (h:0<W.heap.size) (cs:List Value):ztv W cs:=fun _ _ _=>h
theorem ztv.sub {cs cs':List Value} (h:ztv W cs) (hs:∀ v,v∈cs'->v∈cs):ztv W cs':=fun v hv=>h v (hs v hv)
theorem z7e {s:Sh} {e t:fw} {fuel:Nat} {cs:List Value} {x:DataW H×List MemPlace} (ht:P.underlying t=some (.slice e)) (hsz:P.cellsOf e=s.sz) (hpos:0<s.sz)
    (ih:∀ {fuel:Nat} {cs:List Value} {x:DataW H×List MemPlace},DataW.trod enc P W 0 (fun _=>true) true fuel e cs=some x->ztv W cs->∃ tr,conf s tr/\RtL W tr.cells cs)
    (h:DataW.trod enc P W 0 (fun _=>true) true fuel t cs=some x) (hz:ztv W cs):∃ tr,conf (.slice s) tr/\RtL W tr.cells cs:=by
  rcases Go.Deep.open_slice ht h with ⟨rfl,_⟩|⟨a,len,cap,m,n,D,Pl,rfl,hb,hl,hm,hmm,_,hall⟩
  . exact ⟨.lst s.sz [],⟨[],rfl,ik _,fun x hx=>by simp at hx⟩,.cons .nil .nil⟩
  . have hh:0<W.heap.size:=hz (.slice (some a) len cap) (by simp) ⟨_,_,_,rfl⟩;simp only [if_true] at hmm;subst hmm;rw [hsz] at hall;by_cases h0:m=0
    . subst h0;have:len=0:=by omega
      subst this;exact ⟨.lst s.sz [],⟨[],rfl,ik _,fun x hx=>by simp at hx⟩,.cons (.zero hpos hh) .nil⟩
    obtain ⟨cs0,hc0,_⟩:=hall 0 (by omega);obtain ⟨_,hl0,hcc0⟩:=World.cells?_some hc0
    have hcell0:((W.cell? ((a.add (0*s.sz)).add 0))).isSome=true:=by
      rw [hcc0 0 hpos,fb (by omega)];rfl
    obtain ⟨b,off,spot⟩:=a
    have hspot:spot=none:=by
      cases hq:W.cell? (((⟨b,off,spot⟩:Addr).add (0*s.sz)).add 0) with
      |none=>rw [hq] at hcell0;simp at hcell0
      |some u=>simpa [Addr.add] using World.cell?_spot hq
    subst hspot;simp only [nd,Nat.zero_mul,jc] at hcell0
    obtain ⟨l,hll,hp⟩:=ycu (p:=fun i (p:T×List Value)=>conf s p.1/\RtL W p.1.cells p.2/\p.2.length=s.sz/\∀ j,j<s.sz->W.cell? ⟨b,off+i*s.sz+j,none⟩=p.2[j]?) len (fun i hi=>by
      obtain ⟨cs',h1,h2⟩:=hall i (by omega);obtain ⟨tr,k1,k2⟩:=ih h2 (ztv.of hh _);obtain ⟨-,hcl,hcc⟩:=World.cells?_some h1
      exact ⟨(tr,cs'),k1,k2,hcl,fun j hj=>by have:=hcc j hj;rw [nd,nd] at this;exact this⟩)
    have hmem:∀ p,p∈l->∃ i,i<l.length/\l[i]?=some p/\conf s p.1/\RtL W p.1.cells p.2/\p.2.length=s.sz:=fun p hp'=>by
      obtain ⟨i,hi,rfl⟩:=ma hp';exact ⟨i,hi,fb hi,(hp i hi).1,(hp i hi).2.1,(hp i hi).2.2.1⟩
    refine ⟨.lst s.sz (l.map (·.1)),⟨_,rfl,by rw [fc];omega,fun x hx=>?_⟩,.cons ?_ .nil⟩
    . obtain ⟨p,hp1,rfl⟩:=i6.1 hx;obtain ⟨_,_,_,k,_⟩:=hmem p hp1;exact k
    . have:=Rt.lst (W:=W) (e:=s.sz) (l:=l.map (·.1)) (b:=b) (off:=off) (cap:=m) (cs:=(l.map (·.2)).flatten) (RtL.flat fun p hp1=>by obtain ⟨_,_,_,_,k,_⟩:=hmem p hp1;exact k) (fun t ht'=>?_) hpos (by rw [fc];omega) hm hcell0 ?_
      . rw [fc,hll] at this;exact this
      . obtain ⟨p,hp1,rfl⟩:=i6.1 ht';obtain ⟨_,_,_,_,k,k2⟩:=hmem p hp1;rw [k.len,k2]
      . refine zwb (k:=s.sz) (fun c hc=>?_) (fun i c hi=>?_)
        . obtain ⟨p,hp1,rfl⟩:=i6.1 hc;obtain ⟨_,_,_,_,_,k2⟩:=hmem p hp1;exact k2
        . rw [ko] at hi
          cases hq:l[i]? with
          |none=>rw [hq] at hi;simp at hi
          |some p =>
            rw [hq] at hi;simp only [Option.map_some,ei] at hi;subst hi;have hil:=(fo.1 hq).1;have:l[i]=p:=(fo.1 hq).2;have:=(hp i hil).2.2.2;rw [‹l[i]=p›] at this;exact this
theorem z67 {W:World} {k:gu}:∀ (l:List Int),RtL W (l.map (eo k)) (l.map (iz k))
  |[]=>.nil
  |x :: l=>.cons (.int _ _) (z67 l)
theorem beqN {a b:Nat} (h:fg a b=true):a=b:=et h
mutual
theorem zsj:∀ {s:Sh} {t:fw} {fuel:Nat} {cs:List Value} {x:DataW H×List MemPlace},shOk P s t=true->DataW.trod enc P W 0 (fun _=>true) true fuel t cs=some x->ztv W cs->∃ tr,conf s tr/\RtL W tr.cells cs
  |.int k,t,fuel,cs,x,hs,h,hz=>by
    unfold shOk at hs;split at hs
    . rename_i k' hu;have:k=k':=zAe hs;subst this;obtain ⟨n,rfl,-,hw⟩:=DataW.trod_int hu h;exact ⟨.int k n,⟨n,rfl,hw⟩,.cons (.int k n) .nil⟩
    . simp at hs
  |.bool,t,fuel,cs,x,hs,h,hz=>by
    unfold shOk at hs;split at hs
    . rename_i hu;obtain ⟨b,rfl,-⟩:=DataW.trod_bool hu h;exact ⟨.bool b,⟨b,rfl⟩,.cons (.bool b) .nil⟩
    . simp at hs
  |.str,t,fuel,cs,x,hs,h,hz=>by
    unfold shOk at hs;split at hs
    . rename_i hu;obtain ⟨b,rfl,-,hb⟩:=DataW.trod_string hu h;exact ⟨.str b,⟨b,rfl,hb⟩,.cons (.str b) .nil⟩
    . simp at hs
  |.slice s,t,fuel,cs,x,hs,h,hz=>by
    unfold shOk at hs;split at hs
    . rename_i e hu;simp only [ep] at hs;exact z7e hu (beqN hs.1) (zab.1 hs.2.1) (fun h hz=>zsj hs.2.2 h hz) h hz
    . simp at hs
  |.struct l,t,fuel,cs,x,hs,h,hz=>by
    unfold shOk at hs;split at hs
    . rename_i fs hu;simp only [ep] at hs;obtain ⟨xs,n,-,-,hl,hxl,hall⟩:=DataW.trod_struct hu h
      obtain ⟨ts,k1,k2⟩:=z4x (fs:=fs.toList) (o:=0) (pre:=cs) (fuel:=n) hs.2 (fun f hf=>by
        obtain ⟨i,hi,rfl⟩:=ma hf;have hi':i<fs.size:=by simpa using hi
        have:=hall i fs[i] (jx hi');rw [fb (by omega)] at this
        exact ⟨_,by rw [Array.getElem_toList];exact this⟩) (by rw [hl,beqN hs.1];omega) hz
      rw [ge] at k2;have hlen:cs.take (Sh.szL l)=cs:=gz (by rw [hl,beqN hs.1];exact fd _);rw [hlen] at k2;exact ⟨.agg ts,⟨ts,rfl,k1⟩,k2⟩
    . simp at hs
  |.arr k n,t,fuel,cs,x,hs,h,hz=>by
    unfold shOk at hs;split at hs
    . rename_i m e hu;simp only [ep] at hs;obtain ⟨h1,h2,h3,h4⟩:=hs;split at h4
      . rename_i k' he;have hkk:k=k':=zAe h4;subst hkk;have hmn:=beqN h1;subst hmn;obtain ⟨xs,fu,rfl,hx1,hlen,hxl,hel⟩:=DataW.trod_array hu h;have hl:cs.length=m:=by rw [hlen];exact beqN h2
        have key:∀ i,i<m->∃ z,cs[i]?=some (.int k z)/\(Lit.int k z).wf=true:=by
          intro i hi;have h0:=hel i hi;rw [beqN h3,py,fb (by omega)] at h0;obtain ⟨z,e1,e2,e3⟩:=DataW.trod_int he h0;refine ⟨z,?_,e3⟩;have:(cs.drop i)[0]?=((cs.drop i).take 1)[0]?:=by rw [List.getElem?_take_of_lt (by omega)]
          have e1':(cs.drop i).take 1=[.int k z]:=e1;rw [e1'] at this;simpa using this
        obtain ⟨l,hl2,hp⟩:=ycu (p:=fun i (z:Int)=>cs[i]?=some (.int k z)/\(Lit.int k z).wf=true) m key
        have hcl:cs=l.map (iz k):=by
          apply List.ext_getElem (by rw [hl,fc,hl2]);intro i h1 h2;have:=(hp i (by rw [hl2,<- hl];exact h1)).1;rw [fb h1] at this;rw [List.getElem_map];exact Option.some.inj this
        refine ⟨.agg (l.map (eo k)),⟨⟨l,hl2⟩,rfl,fun x hx=>?_⟩,?_⟩
        . obtain ⟨i,hi,rfl⟩:=ma hx;exact (hp i hi).2
        . rw [hcl];exact z67 l
      . simp at h4
    . simp at hs
theorem z4x:∀ {l:List Sh} {fs:List Field} {o fuel:Nat} {pre:List Value},z7f P l fs o=true->(∀ f,f∈fs->∃ x,DataW.trod enc P W 0 (fun _=>true) true fuel f.type ((pre.drop f.offset).take (P.cellsOf f.type))=some x)->o+Sh.szL l<=pre.length->ztv W pre->∃ ts,ykf l ts/\RtL W ts ((pre.drop o).take (Sh.szL l))
  |[],[],o,fuel,pre,hs,h,hl,hz=>⟨[],rfl,by unfold Sh.szL;rw [mo];exact .nil⟩
  |[],_ :: _,o,fuel,pre,hs,h,hl,hz=>by simp [z7f] at hs
  |_ :: _,[],o,fuel,pre,hs,h,hl,hz=>by simp [z7f] at hs
  |s :: l,f :: fs,o,fuel,pre,hs,h,hl,hz=>by
    unfold z7f at hs;unfold Sh.szL at hl ⊢;simp only [ep] at hs;obtain ⟨x,hx⟩:=h f (by simp);rw [beqN hs.1,beqN hs.2.1] at hx;obtain ⟨tr,k1,k2⟩:=zsj hs.2.2.1 hx (hz.sub fun v hv=>List.mem_of_mem_drop (List.mem_of_mem_take hv));obtain ⟨ts,k3,k4⟩:=z4x (o:=o+s.sz) (pre:=pre) (fuel:=fuel) hs.2.2.2 (fun g hg=>h g (by simp [hg])) (by omega) hz;refine ⟨tr.cells++ts,⟨tr,ts,rfl,k1,k3⟩,?_⟩;have:=k2.append k4;rw [show List.take s.sz (List.drop o pre)++List.take (Sh.szL l) (List.drop (o+s.sz) pre)=List.take (s.sz+Sh.szL l) (List.drop o pre) by rw [List.take_add,kw]] at this;exact this
end
theorem zqp {r:Reach} {base:Nat} {u:fw} {a:Addr} {n c:Nat} (h:Cell.okWide P W r base u (.slice (some a) n c)):0<W.heap.size:=by
  have key:Cell.ok P W r base u (.slice (some a) n c)->0<W.heap.size:=fun h=>by
    unfold Cell.ok at h;split at h<;>first|contradiction | (exact h.elim)|skip
    rename_i hq;cases hq;obtain ⟨-,-,-,-,row,cells,hs,-⟩:=h;unfold World.shape? at hs;by_cases hb:0<W.heap.size
    . exact hb
    . rw [Array.getElem?_eq_none (by omega)] at hs;simp at hs
  unfold Cell.okWide at h;split at h<;>first|exact key h|contradiction
theorem z8f {r:Reach} {base:Nat} {u:fw} {cs:Array Value} (h:Cell.okWide P W r base u (.agg cs)):False:=by
  unfold Cell.okWide at h;split at h<;>first|contradiction | (unfold Cell.ok at h;split at h<;>first|contradiction|exact h)
theorem zxu {r:Reach} {base:Nat} {s:Sh} {t:fw} {v:Value} {d:DataW H} {ps:List MemPlace} (hs:shOk P s t=true) (hv:qr P W r base t v) (h:DataW.Trod enc P W 0 (fun _=>true) true t v d ps):∃ tr,conf s tr/\Rt W tr v:=by
  obtain ⟨fuel,h⟩:=h
  have one:(∀ fs,P.underlying t≠some (.struct fs))->(∀ n e,P.underlying t≠some (.array n e))->(∀ l,s≠.struct l)->(∀ k n,s≠.arr k n)->∃ tr,conf s tr/\Rt W tr v:=fun h1 h2 h3 h4=>by
    have hc:Cell.okWide P W r base t v:=by
      unfold qr at hv;split at hv
      . rename_i fs hu;exact absurd hu (h1 fs)
      . rename_i n e hu;exact absurd hu (h2 n e)
      . exact hv
    have hcs:v.cells.toList=[v]:=by
      cases v<;>first|rfl|exact (z8f hc).elim
    rw [hcs] at h
    obtain ⟨tr,k1,k2⟩:=zsj hs h (fun x hx ⟨a,n,c,he⟩=>by
      simp only [ke] at hx;subst hx;subst he
      exact zqp hc)
    have ht:tr.cells=[tr]:=by
      cases s with
      |struct l=>exact absurd rfl (h3 l)
      |int k=>obtain ⟨n,rfl,_⟩:=k1;rfl
      |bool=>obtain ⟨n,rfl⟩:=k1;rfl
      |str=>obtain ⟨n,rfl,_⟩:=k1;rfl
      |slice e=>obtain ⟨l,rfl,_⟩:=k1;rfl
      |arr k n=>exact absurd rfl (h4 k n)
    rw [ht] at k2
    cases k2 with
    |cons a _=>exact ⟨tr,k1,a⟩
  cases s with
  |struct l =>
    have hu:∃ fs,P.underlying t=some (.struct fs):=by
      unfold shOk at hs;split at hs
      . rename_i fs hu;exact ⟨fs,hu⟩
      . simp at hs
    obtain ⟨fs,hu⟩:=hu;unfold qr at hv;rw [hu] at hv;obtain ⟨cs,rfl,-,ts,-,-,hall⟩:=hv
    obtain ⟨tr,k1,k2⟩:=zsj hs h (fun x hx ⟨a,n,c,he⟩=>by
      subst he;obtain ⟨i,hi,hq⟩:=ma hx;have hi':i<cs.size:=by simpa [Value.cells] using hi
      obtain ⟨u,-,hu2⟩:=hall i _ (jx hi');have:cs[i]=.slice (some a) n c:=by simpa [Value.cells] using hq
      rw [this] at hu2
      exact zqp hu2)
    obtain ⟨ts,rfl,_⟩:=id k1;exact ⟨_,k1,.agg (by simpa [iq,Value.cells] using k2)⟩
  |int k =>
    have:∃ k',P.underlying t=some (.int k'):=by
      unfold shOk at hs;split at hs
      . rename_i k' hu;exact ⟨k',hu⟩
      . simp at hs
    obtain ⟨k',hu⟩:=this;exact one (fun fs hh=>by rw [hu] at hh;simp at hh) (fun n e hh=>by rw [hu] at hh;simp at hh) (fun l hh=>by simp at hh) (fun k n hh=>by simp at hh)
  |bool =>
    have:P.underlying t=some .bool:=by
      unfold shOk at hs;split at hs
      . rename_i hu;exact hu
      . simp at hs
    exact one (fun fs hh=>by rw [this] at hh;simp at hh) (fun n e hh=>by rw [this] at hh;simp at hh) (fun l hh=>by simp at hh) (fun k n hh=>by simp at hh)
  |str =>
    have:P.underlying t=some .string:=by
      unfold shOk at hs;split at hs
      . rename_i hu;exact hu
      . simp at hs
    exact one (fun fs hh=>by rw [this] at hh;simp at hh) (fun n e hh=>by rw [this] at hh;simp at hh) (fun l hh=>by simp at hh) (fun k n hh=>by simp at hh)
  |slice e =>
    have:∃ e,P.underlying t=some (.slice e):=by
      unfold shOk at hs;split at hs
      . rename_i e hu;exact ⟨e,hu⟩
      . simp at hs
    obtain ⟨e',hu⟩:=this;exact one (fun fs hh=>by rw [hu] at hh;simp at hh) (fun n e hh=>by rw [hu] at hh;simp at hh) (fun l hh=>by simp at hh) (fun k n hh=>by simp at hh)
  |arr k n =>
    have hu:∃ m e,P.underlying t=some (.array m e):=by
      unfold shOk at hs;split at hs
      . rename_i m e hu;exact ⟨m,e,hu⟩
      . simp at hs
    obtain ⟨m,e,hu⟩:=hu;unfold qr at hv;rw [hu] at hv;obtain ⟨cs,rfl,-⟩:=hv;have hnoslice:∀ tr:T,conf (.arr k n) tr->True:=fun _ _=>trivial;have hs0:=hs;unfold shOk at hs0;rw [hu] at hs0;simp only [ep] at hs0;obtain ⟨q1,q2,q3,q4⟩:=hs0;split at q4
    . rename_i k' he;obtain ⟨xs,fu,-,-,hlen,hxlen,hel⟩:=DataW.trod_array hu h
      have hz:ztv W (Value.agg cs).cells.toList:=fun x hx ⟨a,n2,c,he2⟩=>by
        subst he2;obtain ⟨i,hi,hq⟩:=ma hx;have hl:(Value.agg cs).cells.toList.length=n:=by rw [hlen];exact beqN q2
        have hmn:=beqN q1;have h0:=hel i (by omega);rw [beqN q3,py] at h0
        cases hxi:xs[i]? with
        |none =>
          rw [hxi] at h0;have:=List.getElem?_eq_none_iff.1 hxi;omega
        |some z =>
          rw [hxi] at h0;obtain ⟨w,e1,-,-⟩:=DataW.trod_int he h0;have e2:((Value.agg cs).cells.toList.drop i)[0]?=(((Value.agg cs).cells.toList.drop i).take 1)[0]?:=by rw [List.getElem?_take_of_lt (by omega)]
          rw [e1,j0,jc,fb hi,hq] at e2;simp at e2
      obtain ⟨tr,k1,k2⟩:=zsj hs h hz;obtain ⟨a,rfl,_⟩:=id k1;exact ⟨_,k1,.agg (by simpa [iq,Value.cells] using k2)⟩
    . simp at q4
end
def zsw (w:Nat):Nat:=if w=0 then 0 else jm w+1
theorem zhw {n:Nat} (h:2<=n):jm n=jm (n / 2)+1:=by
  rw [Nat.log2_def,zAc h]
theorem yez {n:Nat} (h:256<=n):zsw n=8+zsw (n / 256):=by
  unfold zsw;rw [zAd (by omega),zAd (by omega)];rw [zhw (n:=n) (by omega),zhw (n:=n / 2) (by omega),zhw (n:=n / 2 / 2) (by omega),zhw (n:=n / 2 / 2 / 2) (by omega),zhw (n:=n / 2 / 2 / 2 / 2) (by omega),zhw (n:=n / 2 / 2 / 2 / 2 / 2) (by omega),zhw (n:=n / 2 / 2 / 2 / 2 / 2 / 2) (by omega),zhw (n:=n / 2 / 2 / 2 / 2 / 2 / 2 / 2) (by omega)];rw [show n / 2 / 2 / 2 / 2 / 2 / 2 / 2 / 2=n / 256 by omega];omega
theorem zx0 {n:Nat} (h:n<65536):zsw n<=16:=by
  unfold zsw;split
  . omega
  . have:jm n<16:=(Nat.log2_lt (by omega)).2 h;omega
def ymj (b:ByteArray):Bool:=(List.range 256).all fun k=>if h:k<b.size then fg b[k].toNat (zsw k) else true
theorem z81 {b:ByteArray} (hb:ymj b=true) {k:Nat} (hk:k<256) (h:k<b.size):b[k].toNat=zsw k:=by
  have:=List.all_eq_true.1 hb k (List.mem_range.2 hk);rw [dif_pos h] at this;exact et this
theorem z3z (n:Int) (h:-9223372036854775808<=n/\n<=9223372036854775807):pl n=n:=by unfold pl;omega
theorem wrapL {n:Nat} (h:n<=64):pl (pl (n:Int))=n:=by rw [z3z (n:Int) (by omega),z3z _ (by omega)]
set_option maxRecDepth 100000 in
set_option maxHeartbeats 2000000 in
theorem z8g (n:Nat) (W:World) (hn:n<65536):Calls Try.prog 97 #[.int .u16 n] W fun e W'=>e=.returned (.int .i64 (zsw n))/\W'=W:=by
  go_enter Try.func97,Try.ntmps97
  by_cases h:n<256
  . go_wp2
    go_ret
    refine ⟨?_,rfl⟩;clear W;refine congrArg (fun z=>Ending.returned (.int .i64 z)) ?_;rw [z81 (by decide +kernel) h];exact wrapL (Nat.le_trans (zx0 hn) (by decide))
  . go_wp2
    go_ret
    refine ⟨?_,rfl⟩;clear W;refine congrArg (fun z=>Ending.returned (.int .i64 z)) ?_;have hk:n / 256<256:=by omega
    have h1:=zx0 (n:=n / 256) (by omega);rw [yez (by omega),z81 (by decide +kernel) hk,z3z ((zsw (n / 256):Nat):Int) (by omega),z3z _ (by omega)];rfl
set_option maxRecDepth 100000 in
set_option maxHeartbeats 2000000 in
theorem yc0 (n z:Nat) (W:World) (hn:n<65536) (h0:n≠0) (hz:z=15 - jm n):Calls Try.prog 94 #[.int .u16 n] W fun e W'=>e=.returned (.int .i64 (z:Int))/\W'=W:=by
  have h16:=zx0 hn;have hl:zsw n=jm n+1:=by unfold zsw;rw [zAd h0]
  go_enter Try.func94,Try.ntmps94
  go_wp2_with (refine (z8g _ _ hn).mono ?_;rintro e w' ⟨rfl,rfl⟩)
  go_ret
  refine ⟨?_,rfl⟩;refine congrArg (fun z=>Ending.returned (.int .i64 z)) ?_;omega
theorem yb5 {v:Value} {m:Nat} (h:i64N v=some m):v=.int .i64 (m:Nat)/\m<9223372036854775808:=by
  unfold i64N at h;split at h
  . rename_i k m';rw [zcg] at h;split at h
    . rename_i h1;simp only [ep] at h1
      have hk:k=.i64:=by
        have:=et h1.1;cases k<;>first|rfl | (exact absurd this (by decide))
      subst hk;cases h;exact ⟨rfl,zab.1 h1.2⟩
    . cases h
  . cases h
theorem zmr:∀ {n:Nat} {cs:List Value} {l:List Nat},zf3 n cs=some l->l.length=n/\(∀ j,(h:j<l.length)->l[j]<9223372036854775808)/\∀ j,(h:j<l.length)->cs[j]?=some (.int .i64 (l[j]:Nat))
  |0,cs,l,h=>by
    cases cs<;>(simp only [zf3,ei] at h;subst h;exact ⟨rfl,fun j h=>absurd h (lh _),fun j h=>absurd h (lh _)⟩)
  |n+1,[],l,h=>by simp [zf3] at h
  |n+1,v :: cs,l,h=>by
    rw [zf3] at h
    cases hv:i64N v with
    |none=>rw [hv] at h;cases h
    |some m =>
      cases hr:zf3 n cs with
      |none=>rw [hv,hr] at h;cases h
      |some r =>
        rw [hv,hr] at h;cases h;obtain ⟨rfl,hm⟩:=yb5 hv;obtain ⟨a,b,c⟩:=zmr hr;refine ⟨by rw [fq,a],fun j hj=>?_,fun j hj=>?_⟩
        . cases j with
          |zero=>exact hm
          |succ j=>exact b j (by simpa using hj)
        . cases j with
          |zero=>rfl
          |succ j=>simpa using c j (by simpa using hj)
def ydg (W:World) (v:Value) (l:List Nat):Prop:=∃ b o:Nat,v=.pointer (some ⟨b,o,none⟩)/\(∀ j,(h:j<l.length)->l[j]<9223372036854775808)/\∀ j,(h:j<l.length)->W.cell? ⟨b,o+j,none⟩=some (.int .i64 (l[j]:Nat))
theorem zku {n:Nat} {s s':CS} {v:Value} {l:List Nat} (h:zjk n s v=some (l,s')):Can s s'/\s'.obj=s.obj/\s'.n=s.n:=by
  unfold zjk at h;split at h
  . split at h
    . rename_i hr;split at h
      . simp only [ei,eu] at h;obtain ⟨rfl,rfl⟩:=h;refine ⟨zmp hr,?_,?_⟩<;>(rw [(zc3 hr).2])
      . cases h
    . cases h
  . cases h
theorem zsm {n:Nat} {s s':CS} {v v':Value} {l:List Nat} {σ:Sg} {V:Nat->Prop} {W:World} (h:zjk n s v=some (l,s')) (hv:VR σ v v') (hr:Rel σ V s W) (hV:zch V s'):l.length=n/\ydg W v' l:=by
  unfold zjk at h;split at h
  . rename_i a;split at h
    . rename_i cs s1 hrr;split at h
      . rename_i l1 hl;simp only [ei,eu] at h;obtain ⟨rfl,rfl⟩:=h;obtain ⟨b,o,z,h1,rfl⟩:=hv.ptr;have hrow:=zoa hrr hr hV h1;obtain ⟨a1,a2,a3⟩:=zmr hl;refine ⟨a1,b,o+a.off,rfl,a2,fun j hj=>?_⟩;have:=a3 j hj;rw [j0] at this;obtain ⟨u',k1,k2⟩:=hrow.2.2.2 _ _ this;rw [k2.int] at k1;rw [Nat.add_assoc];exact k1
      . cases h
    . cases h
  . cases h
theorem yed {caps:List Value} {s s':CS} {k:List Nat} (h:zi7.key caps s=some (k,s')):Can s s'/\s'.obj=s.obj/\s'.n=s.n:=by
  unfold zi7 at h;dsimp only at h;split at h
  . split at h
    . rename_i h1;split at h
      . rename_i h2;simp only [ei,eu] at h;obtain ⟨rfl,rfl⟩:=h;obtain ⟨c1,o1,n1⟩:=zku h1;obtain ⟨c2,o2,n2⟩:=zku h2;exact ⟨c1.trans c2,o2.trans o1,n2.trans n1⟩
      . cases h
    . cases h
  . cases h
theorem z4y {caps':Array Value} {k:List Nat} {W:World} (h:Now zi7 caps' k W):∃ p q l m,caps'=#[p,q]/\k=l++m/\l.length=10/\m.length=10/\ydg W p l/\ydg W q m:=by
  obtain ⟨σ,V,s,s1,caps,h1,h2,h3,h4,h5⟩:=h;unfold zi7 at h5;dsimp only at h5;split at h5
  . rename_i p q;split at h5
    . rename_i l s2 hp;split at h5
      . rename_i m s3 hq;simp only [ei,eu] at h5;obtain ⟨rfl,rfl⟩:=h5;obtain ⟨xs⟩:=caps'
        match xs,h1 with
        |[p',q'],h1 =>
          obtain ⟨v1,v2,_⟩:=h1;obtain ⟨c2,o2,n2⟩:=zku hq;obtain ⟨c1,o1,n1⟩:=zku hp;obtain ⟨a1,a2⟩:=zsm hp v1 h2 (h3.back c2);obtain ⟨b1,b2⟩:=zsm hq v2 (h2.state o1 n1) h3;exact ⟨p',q',l,m,rfl,rfl,a1,b1,a2,b2⟩
      . cases h5
    . cases h5
  . cases h5
/-! the bits of a word -/
theorem z8i (f:Nat):ztr f 0=[]:=by cases f<;>rfl
theorem z8j {f w:Nat} (h:w≠0):ztr (f+1) w=(15 - jm w) :: ztr f (w - 2 ^ jm w):=by
  rw [ztr,zh2 h,zy7];rfl
theorem z8s {f w:Nat} (h:w≠0) (hw:w<2 ^ f):w - 2 ^ jm w<2 ^ (f - 1)/\w - 2 ^ jm w<w/\1<=f:=by
  have h1:jm w<f:=(Nat.log2_lt h).2 hw;have h2:w<2 ^ (jm w+1):=Nat.lt_log2_self;have h3:2 ^ jm w<=w:=pn h;have h4:2 ^ jm w<=2 ^ (f - 1):=ks (by decide) (by omega);have h5:0<2 ^ jm w:=Nat.two_pow_pos _;rw [Nat.pow_succ] at h2;exact ⟨by omega,by omega,by omega⟩
theorem z7t:∀ {i:Nat} {l m:List Nat},(h:i<l.length)->(h2:i<m.length)->∀ s,znj (s+i) (l.drop i) (m.drop i)=(ztr 17 ((l[i] - (l[i] &&& m[i])) % 65536)).map (16*(s+i)+·)++znj (s+i+1) (l.drop (i+1)) (m.drop (i+1)):=by
  intro i l m h h2 s;rw [lm h,lm h2,znj];rfl
theorem yfl {w:Nat} (x y:BitVec w):x &&& ~~~y=x - (x &&& y):=by
  have h1:(x &&& ~~~y) &&& (x &&& y)=0#w:=by
    apply BitVec.eq_of_getLsbD_eq;intro i hi;simp only [BitVec.getLsbD_and,BitVec.getLsbD_not,hi,decide_true,ji,BitVec.getLsbD_zero];cases x.getLsbD i<;>cases y.getLsbD i<;>rfl
  have h2:(x &&& ~~~y) ||| (x &&& y)=x:=by
    apply BitVec.eq_of_getLsbD_eq;intro i hi;simp only [BitVec.getLsbD_or,BitVec.getLsbD_and,BitVec.getLsbD_not,hi,decide_true,ji];cases x.getLsbD i<;>cases y.getLsbD i<;>rfl
  have h3:=BitVec.add_eq_or_of_and_eq_zero _ _ h1;rw [h2] at h3;exact BitVec.eq_sub_iff_add_eq.2 h3
theorem zns (w:Nat) {a b:Nat} (ha:a<2 ^ w) (hb:b<2 ^ w):a &&& (2 ^ w - 1 - b)=a - (a &&& b):=by
  have h:=congrArg BitVec.toNat (yfl (BitVec.ofNat w a) (BitVec.ofNat w b));rw [po,BitVec.toNat_not,o7,o7,m7 ha,m7 hb,BitVec.toNat_sub_of_le,po,o7,o7,m7 ha,m7 hb] at h
  . exact h
  . rw [BitVec.le_def,po];exact Nat.and_le_left
theorem zwr {a b:Nat} (ha:a<9223372036854775808) (hb:b<9223372036854775808):bits .andNot .i64 (a:Int) (b:Int)=((a - (a &&& b):Nat):Int):=by
  have h:=zns 64 (a:=a) (b:=b) (by omega) (by omega);show ej.wrap ((il 64 (a:Int) &&& ~~~il 64 (b:Int)).toNat:Int)=_;rw [po,BitVec.toNat_not,kv,kv];rw [show ((a:Int) % ((2 ^ 64:Nat):Int)).toNat=a by omega,show ((b:Int) % ((2 ^ 64:Nat):Int)).toNat=b by omega,h];have hc:a - (a &&& b)<9223372036854775808:=by omega
  generalize a - (a &&& b)=c at *;simp [IntKind.wrap,IntKind.bits,IntKind.signed];split<;>omega
section
open Go Go.RowKit Go.Shelf
attribute [local go_sem] Oper.semAt_some
theorem yk6 (n:Nat):IntKind.u16.wrap (n:Int)=((n % 65536:Nat):Int):=by
  rw [IntKind.wrap_u16];omega
theorem yct {w k:Nat} (hw:w<65536) (h0:w≠0) (hk:k=jm w):bits .andNot .u16 (w:Int) (IntKind.u16.wrap (2 ^ k))=((w - 2 ^ k:Nat):Int):=by
  subst hk;have h1:=pn h0;have h2:(2:Int) ^ jm w=((2 ^ jm w:Nat):Int):=by rw [Int.natCast_pow];rfl
  rw [h2,yk6,m7 (by omega),u16_andNot_nat _ _ hw (by omega)];rw [show 65535 - 2 ^ jm w=2 ^ 16 - 1 - 2 ^ jm w from rfl,zns 16 hw (by omega),show w &&& 2 ^ jm w=2 ^ jm w from ?_];apply Nat.eq_of_testBit_eq;intro i;rw [Nat.testBit_and,Nat.testBit_two_pow];by_cases h:jm w=i
  . rw [<- h,Nat.testBit_log2 h0];simp
  . simp [h]
set_option maxRecDepth 100000 in
set_option maxHeartbeats 4000000 in
theorem yar (caps':Array Value) (k:List Nat) (kd l:Nat) (J:List (Nat×Obj)->Nat->World->Prop) (Jx:World->Prop) (W:World)
    (hN:∀ K j W1,J K j W1->Now zi7 caps' k W1)
    (hY:∀ kd' K j x W1,(zi7.xs k)[j]?=some x->J K j W1->YieldAt lr kd' Try.prog l x.toArray W1 fun e W'=>(e=.returned (.bool true)/\J K (j+1) W')\/(e=.returned (.bool false)/\Jx W'))
    (hB:∀ K j W1 W2,J K j W1->Below W1.heap.size W1 W2->J K j W2) (h0:J [] 0 W):CallsIn lr kd Try.prog 93 (#[.func (.yield l) #[] #[]]++caps') W fun e W'=>(∃ v,e=.returned v)/\((∃ K,J K (zi7.xs k).length W')\/Jx W'):=by
  obtain ⟨p,q,L,M,rfl,rfl,hL,hM,hp,hq⟩:=z4y (hN [] 0 W h0);obtain ⟨b1,o1,rfl,hLm,hp⟩:=hp;obtain ⟨b2,o2,rfl,hMm,hq⟩:=hq
  have hcells:∀ j W1,J [] j W1->(∀ i,(h:i<L.length)->W1.cell? ⟨b1,o1+i,none⟩=some (.int .i64 (L[i]:Nat)))/\(∀ i,(h:i<M.length)->W1.cell? ⟨b2,o2+i,none⟩=some (.int .i64 (M[i]:Nat))):=by
    intro j W1 hj;obtain ⟨p,q,L',M',e1,e2,hL',hM',hp',hq'⟩:=z4y (hN [] j W1 hj);obtain ⟨rfl,rfl⟩:=List.append_inj e2 (by rw [hL,hL']);obtain ⟨b1',o1',rfl,_,hp'⟩:=hp';obtain ⟨b2',o2',rfl,_,hq'⟩:=hq';simp only [Array.mk.injEq,n7,Value.pointer.injEq,ei,Addr.mk.injEq,and_true] at e1;obtain ⟨⟨rfl,rfl⟩,rfl,rfl⟩:=e1;exact ⟨hp',hq'⟩
  show CallsIn lr kd Try.prog 93 #[.func (.yield l) #[] #[],.pointer (some ⟨b1,o1,none⟩),.pointer (some ⟨b2,o2,none⟩)] W _;obtain ⟨X,hX⟩:∃ X,X=zi7.xs (L++M):=⟨_,rfl⟩
  have HX:X=(znj 0 L M).map fun n=>[.int .i64 (.ofNat n)]:=by
    rw [hX];show (znj 0 ((L++M).take 10) ((L++M).drop 10)).map _=_;rw [kp (by omega),gz (by omega),List.drop_append_of_le_length (by omega),ir (by omega),ft]
  rw [<- hX] at hY ⊢;refine callsIn_of_wp Try.func93 rfl trivial ?_ rfl;simp only [Try.ntmps93,List.size_toArray,fq,iu,ff,ib,Array.replicate_succ,Array.replicate_zero,List.push_toArray,List.append_toArray,ft,f6]
  gi_wp2
  gi_loopw [7] (fun v wr=>∃ i j:Nat,j<=X.length/\i<=10/\v=.int .i64 i/\J [] j wr/\X.drop j=(znj i (L.drop i) (M.drop i)).map fun n=>[.int .i64 (.ofNat n)])
    (fun v _=>10 - (intOf v).toNat)
  case atStart=>exact ⟨0,0,ik _,ik _,rfl,h0,by rw [ge,ge,ge];exact HX⟩
  case round =>
    obtain ⟨i,j,hjX,hi,rfl,hJ,hd⟩:=hrel;by_cases hlt:i<10
    . obtain ⟨c1,c2⟩:=hcells j _ hJ;have h1:=c1 i (by omega);have h2:=c2 i (by omega);have a1:=hLm i (by omega);have a2:=hMm i (by omega);have hod:=z7t (i:=i) (l:=L) (m:=M) (by omega) (by omega) 0;rw [ig] at hod;have han:=zwr a1 a2;have hle:L[i] - (L[i] &&& M[i])<9223372036854775808:=by omega
      gi_wp2
      gi_region
      rw [yk6]
      gi_wp2
      have hJ':=hB [] j wr wr.drew hJ ((Below.refl wr.heap.size wr).drew);clear hJ hcells c1 c2 h1 h2;obtain ⟨w0,hw0⟩:∃ w0,w0=(L[i] - (L[i] &&& M[i])) % 65536:=⟨_,rfl⟩;rw [<- hw0] at hod ⊢;have hw1:w0<65536:=by omega
      rw [hod] at hd;clear hod han hle hw0 a1 a2;obtain ⟨R,hR⟩:∃ R,R=znj (i+1) (L.drop (i+1)) (M.drop (i+1)):=⟨_,rfl⟩;rw [<- hR] at hd
      gi_loopw [5] (fun v wr=>∃ w f j:Nat,j<=X.length/\v=.int .u16 w/\w<2 ^ f/\f<=16/\J [] j wr/\X.drop j=((ztr (f+1) w).map (fun x=>16*i+x)++R).map fun n=>[.int .i64 (.ofNat n)])
        (fun v _=>(intOf v).toNat)
      case atStart=>exact ⟨w0,16,j,hjX,rfl,hw1,fd _,hJ',hd⟩
      case round =>
        obtain ⟨w,f,j,hjX,rfl,hw,hf,hJ,hd⟩:=hrel;have hw2:w<65536:=Nat.lt_of_lt_of_le hw (ks (by decide) hf);by_cases h0:w=0
        . subst h0;rw [z8i,ov,ft,hR] at hd
          gi_wp2
          go_roundw
          case rel=>exact ⟨i+1,j,hjX,by omega,by go_num,hJ,hd⟩
          case measure=>simp [intOf];omega
        . obtain ⟨q1,q2,q3⟩:=z8s h0 hw;obtain ⟨z,hz⟩:∃ z,z=15 - jm w:=⟨_,rfl⟩;have hz15:z<=15:=by omega
          have hlg:jm w<=15:=by
            have:=(Nat.log2_lt h0).2 (show w<2 ^ 16 by omega);omega
          obtain ⟨w2,hw2e⟩:∃ w2,w2=w - 2 ^ jm w:=⟨_,rfl⟩;rw [z8j h0,<- hz,<- hw2e,ic,f6,ic] at hd
          have hjl:j<X.length:=by
            have:=congrArg List.length hd;simp at this;omega
          rw [lm hjl] at hd;obtain ⟨hd1,hd2⟩:=List.cons.inj hd;have hx:X[j]?=some [.int .i64 (.ofNat (16*i+z))]:=by rw [fb hjl,hd1]
          obtain ⟨fn,tmps,assign,body,hy,hR1⟩:=hY (kd - 1) [] j _ wr hx hJ;have hcall:=yc0 w z wr hw2 h0 hz;have hcl:=yct (k:=15 - z) hw2 h0 (by omega);rw [show 15 - z=jm w by omega,<- hw2e,show jm w=15 - z by omega] at hcl
          have hpw:2 ^ (15 - z)<=w/\2 ^ (15 - z)<65536:=by
            have e:15 - z=jm w:=by omega
            rw [e];exact ⟨pn h0,Nat.lt_of_le_of_lt (pn h0) hw2⟩
          rw [<- hw2e] at q1 q2;clear hz hw2e hlg;rw [show qd (16*i+z)=16*(i:Int)+(z:Int) from by simp] at hy;clear hd
          gi_wp2_with (refine ⟨trivial,fun hq=>absurd hq (by simp [lr]),(callsIn_wide.2 hcall).mono ?_⟩;rintro e w' ⟨rfl,rfl⟩)
          refine ⟨fun hq=>absurd hq (by simp [lr]),hR1.mono ?_⟩;rintro e W3 (⟨rfl,hJ3⟩|⟨rfl,hJx3⟩)
          . gi_wp2
            go_roundw
            case rel =>
              exact ⟨w2,f - 1,j+1,by omega,rfl,q1,by omega,hJ3,by rw [hd2,Nat.sub_add_cancel q3]⟩
            case measure =>
              show (w2:Int).toNat<(w:Int).toNat
              omega
          . gi_wp2
            refine bodyPost_ret (results_none rfl _ _ _) rfl ?_;exact ⟨⟨_,rfl⟩,.inr hJx3⟩
    . obtain rfl:i=10:=by omega
      gi_wp2
      go_end0
      rw [ir (show L.length<=10 by omega)] at hd
      have hjX2:X.length<=j:=by
        have:=congrArg List.length hd;simp [znj] at this;omega
      obtain rfl:j=X.length:=Nat.le_antisymm hjX hjX2;exact ⟨⟨_,rfl⟩,.inl ⟨_,hJ⟩⟩
theorem yjt:ItOk Try.prog 93 zi7 where
  can:=fun caps s k s' h _=>yed h
  plain:=fun k x hx σ=>by
    obtain ⟨n,_,rfl⟩:=i6.1 hx;exact ⟨pc _ _,trivial⟩
  enter:=enters_of Try.func93 (by kernel_rfl) rfl
  runs:=fun caps' k kd l J Jx W h1 h2 _ _ _ h4 h5=>yar caps' k kd l J Jx W h1 h4 h2 h5
end
theorem zsq:∀ {n:Nat} {cs:List Value} {L:List Nat},zjl n cs=some L->L.length=10*n/\∀ i,i<n->zf3 10 (cs.drop (23*i+1))=some (zed L i)
  |0,cs,L,h=>by
    simp only [zjl,ei] at h;subst h;exact ⟨rfl,fun i hi=>absurd hi (lh _)⟩
  |n+1,cs,L,h=>by
    rw [zjl] at h
    cases hl:zf3 10 (cs.drop 1) with
    |none=>rw [hl] at h;cases h
    |some l =>
      cases hr:zjl n (cs.drop 23) with
      |none=>rw [hl,hr] at h;cases h
      |some r =>
        rw [hl,hr] at h;simp only [ei] at h;subst h;obtain ⟨h1,h2⟩:=zsq hr;have h3:=(zmr hl).1;refine ⟨by rw [fi,h1,h3];omega,fun i hi=>?_⟩
        cases i with
        |zero =>
          rw [Nat.mul_zero,ig,hl];unfold zed;rw [Nat.mul_zero,ge,<- h3,List.take_left]
        |succ i =>
          have:=h2 i (by omega);rw [kw] at this;rw [show 23*(i+1)+1=23+(23*i+1) by omega,this];unfold zed;rw [lz,ir (l:=l) (by omega),ft,h3,show 10*(i+1) - 10=10*i by omega]
def ykv (W:World) (p:Option Addr) (n:Nat) (L:List Nat):Prop:=0<n->∃ b o,p=some ⟨b,o,none⟩/\∀ i,i<n->(zed L i).length=10/\∀ j,(h:j<(zed L i).length)->W.cell? ⟨b,o+23*i+1+j,none⟩=some (.int .i64 ((zed L i)[j]:Nat))
theorem zuu {s s':CS} {v:Value} {l:List Nat} (h:zp6 s v=some (l,s')):Can s s'/\s'.obj=s.obj/\s'.n=s.n:=by
  unfold zp6 at h;split at h
  . cases h;exact ⟨Can.refl _,rfl,rfl⟩
  . split at h
    . rename_i hr;split at h
      . obtain ⟨_,h⟩:=zd1 h;simp only [ei,eu] at h;obtain ⟨rfl,rfl⟩:=h;refine ⟨zmp hr,?_,?_⟩<;>(rw [(zc3 hr).2])
      . cases h
    . cases h
  . cases h
theorem z7b {s s':CS} {v v':Value} {k:List Nat} {σ:Sg} {V:Nat->Prop} {W:World} (h:zp6 s v=some (k,s')) (hv:VR σ v v') (hr:Rel σ V s W) (hV:zch V s'):∃ n L p c,k=n :: L/\n<1000000000/\v'=.slice p n c/\ykv W p n L:=by
  unfold zp6 at h;split at h
  . rename_i p c;simp only [ei,eu] at h;obtain ⟨rfl,rfl⟩:=h
    cases p with
    |none =>
      obtain ⟨_,_,rfl⟩:=hv.out;exact ⟨0,[],_,_,rfl,by decide,rfl,fun h=>absurd h (Nat.lt_irrefl _)⟩
    |some a =>
      obtain ⟨b,o,z,h1,a',c',rfl,_⟩:=hv.out;exact ⟨0,[],_,_,rfl,by decide,rfl,fun h=>absurd h (Nat.lt_irrefl _)⟩
  . rename_i a n c;split at h
    . rename_i cs s1 hrr;split at h
      . rename_i l hl;obtain ⟨hn,h⟩:=zd1 h;simp only [ei,eu] at h;obtain ⟨rfl,rfl⟩:=h;obtain ⟨b,o,z,h1,a',c',rfl,k1,k2,k3,k4,_⟩:=hv.out;have hrow:=zoa hrr hr hV h1;have ha:=k4 (by omega);subst ha;refine ⟨n+1,l,_,c',rfl,zab.1 hn,rfl,fun _=>⟨b,o+a.off,rfl,fun i hi=>?_⟩⟩;have h3:=(zsq hl).2 i hi;obtain ⟨a1,a2,a3⟩:=zmr h3;refine ⟨a1,fun j hj=>?_⟩;have:=a3 j hj;rw [kw,j0] at this;obtain ⟨u',q1,q2⟩:=hrow.2.2.2 _ _ this;rw [q2.int] at q1;rw [show o+a.off+23*i+1+j=o+(a.off+(23*i+1)+j) by omega];exact q1
      . cases h
    . cases h
  . cases h
theorem ya7 {caps:List Value} {s s':CS} {k:List Nat} (h:zgd.key caps s=some (k,s')):Can s s'/\s'.obj=s.obj/\s'.n=s.n:=by
  unfold zgd at h;dsimp only at h;split at h
  . split at h
    . rename_i hr;split at h
      . obtain ⟨c2,o2,n2⟩:=zuu h;have e:=(zc3 hr).2;exact ⟨(zmp hr).trans c2,by rw [o2,e],by rw [n2,e]⟩
      . cases h
    . cases h
  . cases h
theorem zz3 {caps':Array Value} {k:List Nat} {W:World} (h:Now zgd caps' k W):∃ bt ot n L p c,caps'=#[.pointer (some ⟨bt,ot,none⟩)]/\k=n :: L/\n<1000000000/\W.cell? ⟨bt,ot,none⟩=some (.slice p n c)/\ykv W p n L:=by
  obtain ⟨σ,V,s,s1,caps,h1,h2,h3,h4,h5⟩:=h;unfold zgd at h5;dsimp only at h5;split at h5
  . rename_i a;split at h5
    . rename_i cs s2 hrr;split at h5
      . rename_i v rest hd;obtain ⟨xs⟩:=caps'
        match xs,h1 with
        |[p'],h1 =>
          obtain ⟨v1,_⟩:=h1;obtain ⟨b,o,z,q1,rfl⟩:=v1.ptr;obtain ⟨c2,o2,n2⟩:=zuu h5;have hrow:=zoa hrr h2 (h3.back c2) q1;have e:=(zc3 hrr).2
          have hv:cs[a.off]?=some v:=by
            have:=j0 (xs:=cs) (i:=a.off) (j:=0);rw [hd] at this;simpa using this.symm
          obtain ⟨u',w1,w2⟩:=hrow.2.2.2 _ _ hv;obtain ⟨n,L,p,c,rfl,k2,rfl,k4⟩:=z7b h5 w2 (h2.state (by rw [e]) (by rw [e])) h3;exact ⟨b,o+a.off,n,L,p,c,rfl,rfl,k2,w1,k4⟩
      . cases h5
    . cases h5
  . cases h5
/-! what the iterator yields, by its place -/
theorem sN_t:∀ {l m:List Nat},l=m->zg6 l m=true
  |[],_,h=>by subst h;rfl
  |a :: l,_,h=>by subst h;rw [zg6,sN_t rfl,Nat.beq_refl];rfl
theorem sN_f {l m:List Nat} (h:l≠m):zg6 l m=false:=by
  cases hb:zg6 l m with
  |false=>rfl
  |true=>exact absurd (zr3 hb).symm h
theorem zh0:∀ n,(zh1 n).length=n
  |0=>rfl
  |n+1=>by rw [zh1,fi,zh0 n];rfl
theorem z01:∀ {n i:Nat},i<n->(zh1 n)[i]?=some (zua 1 i 0)
  |0,i,h=>absurd h (lh _)
  |n+1,i,h=>by
    rw [zh1];by_cases hi:i<n
    . rw [fp (by rw [zh0];exact hi),z01 hi]
    . have:i=n:=by omega
      subst this;rw [gp (by rw [zh0];exact fd _),zh0,Nat.sub_self];rfl
theorem zzn (l:List Nat) (k:Nat):∀ {i j:Nat},i<=j->∃ r,zh7 l k j=zh7 l k i++r
  |i,0,h=>⟨[],by rw [show i=0 by omega];rfl⟩
  |i,j+1,h=>by
    by_cases hi:i=j+1
    . exact ⟨[],by rw [hi,gn]⟩
    . obtain ⟨r,hr⟩:=zzn l k (i:=i) (j:=j) (by omega);exact ⟨_,by rw [zh7,hr,fy]⟩
theorem yda (l:List Nat):∀ {i j:Nat},i<=j->∃ r,zcq l j=zcq l i++r
  |i,0,h=>⟨[],by rw [show i=0 by omega];rfl⟩
  |i,j+1,h=>by
    by_cases hi:i=j+1
    . exact ⟨[],by rw [hi,gn]⟩
    . obtain ⟨r,hr⟩:=yda l (i:=i) (j:=j) (by omega);exact ⟨_,by rw [zcq,hr,fy]⟩
noncomputable def posF (n:Nat) (l:List Nat) (k i:Nat):Nat:=n+((zcq l k).length+(zh7 l k i).length)
theorem yjm {n k i:Nat} {l:List Nat} (hk:k<n) (hi:i<k) (he:zed l i=zed l k) (z:Nat) (hz:z<2):(zh1 n++zcq l n)[posF n l k i+z]?=some (zua (2+z) i k):=by
  obtain ⟨r1,h1⟩:=yda l (i:=k+1) (j:=n) (by omega);obtain ⟨r2,h2⟩:=zzn l k (i:=i+1) (j:=k) (by omega);rw [h1,zcq,h2,zh7,sN_t he,zba];unfold posF;rw [gp (by rw [zh0];omega),zh0,show n+((zcq l k).length+(zh7 l k i).length)+z - n=(zcq l k).length+((zh7 l k i).length+z) by omega];rw [fy,gp (by omega),Nat.add_sub_cancel_left,fy,fy,gp (by omega),Nat.add_sub_cancel_left]
  match z,hz with
  |0,_=>rfl
  |1,_=>rfl
theorem yd9 {n k i:Nat} {l:List Nat} (he:zed l i=zed l k):posF n l k (i+1)=posF n l k i+2:=by
  unfold posF;rw [zh7,sN_t he,zba,fi];rfl
theorem yd8 {n k i:Nat} {l:List Nat} (he:zed l i≠zed l k):posF n l k (i+1)=posF n l k i:=by
  unfold posF;rw [zh7,sN_f he,zy7,gn]
theorem yln {n k:Nat} {l:List Nat}:posF n l (k+1) 0=posF n l k k:=by
  unfold posF;rw [zcq,fi];rfl
theorem yjn {n:Nat} {l:List Nat}:posF n l n 0=(zh1 n++zcq l n).length:=by
  unfold posF;rw [fi,zh0];rfl
section
open Go Go.RowKit Go.Shelf
attribute [local go_sem] Oper.semAt_some
def nV (l:List Nat):List Value:=l.map fun x=>.int .i64 (x:Nat)
theorem z2t:∀ {n:Nat} {l:List Nat},l.length=n->zd7 (fl n (.int .i64)) (nV l)=true
  |0,[],_=>rfl
  |n+1,x :: l,h=>by
    rw [io,nV,ic,zd7];have:=z2t (n:=n) (l:=l) (by simpa using h);rw [nV] at this;rw [this];rfl
  |0,_ :: _,h=>by simp at h
  |_+1,[],h=>by simp at h
theorem yl0:∀ {l m:List Nat},l.length=m.length->eqVs (nV l) (nV m)=decide (l=m)
  |[],[],_=>by simp [nV,eqVs]
  |x :: l,y :: m,h=>by
    have ih:=yl0 (l:=l) (m:=m) (by simpa using h);rw [nV,nV] at ih;rw [nV,nV,ic,ic,eqVs,ih];by_cases hx:x=y
    . subst hx;simp [zma]
    . have:zma (.int .i64 (x:Nat)) (.int .i64 (y:Nat))=false:=by simp only [zma];rw [beq_eq_false_iff_ne];omega
      rw [this];simp [hx]
  |[],_ :: _,h=>by simp at h
  |_ :: _,[],h=>by simp at h
theorem ymv {P:fx} {t:fw} {sh:List CK} {xs ys:List Value} {r:Bool} (hs:zga P 10000 t=some (true,sh)) (hx:zd7 sh xs=true) (hy:zd7 sh ys=true) (hr:eqVs xs ys=r) (w:World):(jy 10000 t (.agg xs.toArray) (.agg ys.toArray)).run P w=.ok r w :=
  z0w (by rw [<- hr];exact yic 10000 hs hx hy) w
theorem yb6 {l m:List Nat} (hl:l.length=10) (hm:m.length=10) {r:Bool} (hr:decide (l=m)=r) (w:World):(jy 10000 43 (.agg (nV l).toArray) (.agg (nV m).toArray)).run Try.prog w=.ok r w :=
  ymv (sh:=fl 10 (.int .i64)) (by kernel_rfl) (z2t hl) (z2t hm) ((yl0 (by rw [hl,hm])).trans hr) w
theorem ycv {W:World} {b o:Nat} {l:List Nat} (hl:l.length=10) (h:∀ j,(hj:j<l.length)->W.cell? ⟨b,o+j,none⟩=some (.int .i64 (l[j]:Nat))):∃ x0 x1 x2 x3 x4 x5 x6 x7 x8 x9:Nat,l=[x0,x1,x2,x3,x4,x5,x6,x7,x8,x9]/\∀ j,(hj:j<10)->W.cell? ⟨b,o+j,none⟩=some (.int .i64 ([x0,x1,x2,x3,x4,x5,x6,x7,x8,x9][j]:Nat)):=by
  match l,hl with
  |[x0,x1,x2,x3,x4,x5,x6,x7,x8,x9],_=>exact ⟨x0,x1,x2,x3,x4,x5,x6,x7,x8,x9,rfl,fun j hj=>h j hj⟩
theorem zz4 {σ:Sg} (a b c:Nat):VR σ (.agg #[.int .i64 (.ofNat a),.int .i64 (.ofNat b),.int .i64 (.ofNat c)]) (.agg #[.int .i64 (.ofNat a),.int .i64 (.ofNat b),.int .i64 (.ofNat c)]):=VR.mk ⟨_,rfl,pc _ _,pc _ _,pc _ _,trivial⟩
set_option maxRecDepth 100000 in
set_option maxHeartbeats 4000000 in
theorem z7x (caps':Array Value) (k:List Nat) (kd l:Nat) (J:List (Nat×Obj)->Nat->World->Prop) (Jx:World->Prop) (W:World)
    (hN:∀ K j W1,J K j W1->Now zgd caps' k W1)
    (hK:∀ K j W1 W2 b o,J K j W1->Below W1.heap.size W1 W2->W1.heap.size<=b->W2.heap[b]?=some o->J ((b,o) :: K) j W2) (hk:∀ K j W1 b o,J K j W1->(b,o)∈K->W1.heap[b]?=some o)
    (hY:∀ kd' K j x W1,(zgd.xs k)[j]?=some x->J K j W1->YieldAt lr kd' Try.prog l x.toArray W1 fun e W'=>(e=.returned (.bool true)/\J K (j+1) W')\/(e=.returned (.bool false)/\Jx W'))
    (hB:∀ K j W1 W2,J K j W1->Below W1.heap.size W1 W2->J K j W2) (h0:J [] 0 W):CallsIn lr kd Try.prog 66 (#[.func (.yield l) #[] #[]]++caps') W fun e W'=>(∃ v,e=.returned v)/\((∃ K,J K (zgd.xs k).length W')\/Jx W'):=by
  obtain ⟨bt,ot,n,L,p0,c0,rfl,rfl,hn,hc0,ht0⟩:=zz3 (hN [] 0 W h0)
  have hcells:∀ K j W1,J K j W1->∃ p c,W1.cell? ⟨bt,ot,none⟩=some (.slice p n c)/\ykv W1 p n L:=by
    intro K j W1 hj;obtain ⟨bt',ot',n',L',p,c,e1,e2,_,h3,h4⟩:=zz3 (hN K j W1 hj);simp only [Array.mk.injEq,n7,Value.pointer.injEq,ei,Addr.mk.injEq,and_true] at e1 e2;obtain ⟨rfl,rfl⟩:=e1;obtain ⟨rfl,rfl⟩:=e2;exact ⟨p,c,h3,h4⟩
  clear ht0;show CallsIn lr kd Try.prog 66 #[.func (.yield l) #[] #[],.pointer (some ⟨bt,ot,none⟩)] W _;have hX:zgd.xs (n :: L)=zh1 n++zcq L n:=rfl;rw [hX] at hY ⊢;refine callsIn_of_wp Try.func66 rfl trivial ?_ rfl;simp only [Try.ntmps66,List.size_toArray,fq,iu,ff,ib,Array.replicate_succ,Array.replicate_zero,List.push_toArray,List.append_toArray,ft,f6]
  gi_wp2
  gi_loopw [10] (fun v wr=>∃ i:Nat,i<=n/\v=.int .i64 i/\J [] i wr) (fun v _=>n - (intOf v).toNat)
  case atStart=>exact ⟨0,ik _,rfl,h0⟩
  case round =>
    obtain ⟨i,hi,rfl,hJ⟩:=hrel;by_cases hlt:i<n
    . have hx:(zh1 n++zcq L n)[i]?=some (zua 1 i 0):=by rw [fp (by rw [zh0];exact hlt),z01 hlt]
      obtain ⟨fn,tmps,assign,body,hy,hR1⟩:=hY (kd - 1) [] i _ wr hx hJ;unfold zua at hy;rw [show qd 1=(1:Int) from rfl,show qd i=(i:Int) from rfl,show qd 0=(0:Int) from rfl] at hy
      gi_wp2
      refine ⟨fun hq=>absurd hq (by simp [lr]),hR1.mono ?_⟩;rintro e W3 (⟨rfl,hJ3⟩|⟨rfl,hJx3⟩)
      . gi_wp2
        go_roundw
        case rel=>exact ⟨i+1,by omega,by go_num,hJ3⟩
        case measure=>simp [intOf];omega
      . gi_wp2
        refine bodyPost_ret (results_none rfl _ _ _) rfl ?_;exact ⟨⟨_,rfl⟩,.inr hJx3⟩
    . obtain rfl:i=n:=by omega
      obtain ⟨p,c,hc,-⟩:=hcells [] _ wr hJ
      gi_wp2
      clear hlt hi hc
      gi_loopw [21] (fun v wr=>∃ (K:List (Nat×Obj)) (k:Nat),k<=i/\v=.int .i64 k/\J K (posF i L k 0) wr) (fun v _=>i - (intOf v).toNat)
      case atStart=>exact ⟨[],0,ik _,rfl,hJ⟩
      case round =>
        obtain ⟨K,k,hk1,rfl,hJ⟩:=hrel;by_cases hlt:k<i
        . gi_wp2
          gi_loopw [25] (fun v wr=>∃ (K:List (Nat×Obj)) (m:Nat),m<=k/\v=.int .i64 m/\J K (posF i L k m) wr) (fun v _=>k - (intOf v).toNat)
          case atStart=>exact ⟨K,0,ik _,rfl,hJ⟩
          case round =>
            obtain ⟨K,m,hm1,rfl,hJ⟩:=hrel;by_cases hmk:m<k
            . obtain ⟨p,c,hc,ht⟩:=hcells K _ wr hJ;obtain ⟨b,o,rfl,ht2⟩:=ht (by omega);obtain ⟨e1,c1⟩:=ht2 m (by omega);obtain ⟨e2,c2⟩:=ht2 k (by omega);obtain ⟨x0,x1,x2,x3,x4,x5,x6,x7,x8,x9,hx,d1⟩:=ycv (o:=o+m*23+1) e1 (fun j hj=>by rw [show o+m*23+1+j=o+23*m+1+j by omega];exact c1 j hj);obtain ⟨y0,y1,y2,y3,y4,y5,y6,y7,y8,y9,hy,d2⟩:=ycv (o:=o+k*23+1) e2 (fun j hj=>by rw [show o+k*23+1+j=o+23*k+1+j by omega];exact c2 j hj);have d3:=d1 0 (by decide);have d4:=d2 0 (by decide);simp only [jc,List.getElem_cons_zero] at d3 d4;clear c1 c2 ht2 ht;by_cases he:zed L m=zed L k
              . have q:=fun w=>yb6 e1 e2 (zAa he) w;rw [hx,hy] at q;simp only [nV,ic,ov] at q;clear e1 e2 hx hy
                gi_wp2
                gi_region
                gi_wp2
                have hb:Below wr.heap.size wr (wr.alloc (Obj.cells #[iz ej 2,iz ej 3] 3)).drew:=((Below.refl wr.heap.size wr).alloc (fd _) _).drew;have hJ2:=hK K _ wr _ wr.heap.size _ hJ hb (fd _) (World.alloc_heap_new wr _);have hx:∀ z,z<2->(zh1 i++zcq L i)[posF i L k m+z]?=some (zua (2+z) m k):=fun z hz=>yjm hlt hmk he z hz;obtain ⟨K2,hK2⟩:∃ K2,K2=(wr.heap.size,Obj.cells #[iz ej 2,iz ej 3] 3) :: K:=⟨_,rfl⟩;have hin:(wr.heap.size,Obj.cells #[iz ej 2,iz ej 3] 3)∈K2:=by rw [hK2];exact .head _
                rw [<- hK2] at hJ2;obtain ⟨B,hB0⟩:∃ B,B=wr.heap.size:=⟨_,rfl⟩;rw [<- hB0] at hin ⊢;clear hK2 hJ hb d1 d2 d3 d4 q hc hcells hK hB0
                gi_loopw [43] (fun v wr=>∃ (z:Nat),z<=2/\v=.int .i64 z/\J K2 (posF i L k m+z) wr) (fun v _=>2 - (intOf v).toNat)
                case atStart=>exact ⟨0,by decide,rfl,hJ2⟩
                case round =>
                  obtain ⟨z,hz,rfl,hJ⟩:=hrel;by_cases hz2:z<2
                  . have hrow:=hk _ _ _ _ _ hJ hin
                    have hcell:wr.cell? ⟨B,z,none⟩=some (.int .i64 ((2+z:Nat))):=by
                      match z,hz2 with
                      |0,_=>simp [qz,hrow]
                      |1,_=>simp [qz,hrow]
                    obtain ⟨fn,tmps,assign,body,hy,hR1⟩:=hY (kd - 1) K2 _ _ wr (hx z hz2) hJ;unfold zua at hy;rw [show qd (2+z)=2+(z:Int) from by simp,show qd m=(m:Int) from rfl,show qd k=(k:Int) from rfl] at hy
                    gi_wp2
                    refine ⟨fun hq=>absurd hq (by simp [lr]),hR1.mono ?_⟩;rintro e W3 (⟨rfl,hJ3⟩|⟨rfl,hJx3⟩)
                    . gi_wp2
                      go_roundw
                      case rel=>exact ⟨z+1,by omega,by go_num,hJ3⟩
                      case measure=>simp [intOf];omega
                    . gi_wp2
                      refine bodyPost_ret (results_none rfl _ _ _) rfl ?_;exact ⟨⟨_,rfl⟩,.inr hJx3⟩
                  . obtain rfl:z=2:=by omega
                    gi_wp2
                    exact ⟨⟨K2,m+1,by omega,by go_num,by rw [yd9 he];exact hJ⟩,by simp [intOf];omega⟩
              . have q:=fun w=>yb6 e1 e2 (zAb he) w;rw [hx,hy] at q;simp only [nV,ic,ov] at q;clear e1 e2 hx hy
                gi_wp2
                gi_region
                gi_wp2
                go_roundw
                case rel=>exact ⟨K,m+1,by omega,by go_num,by rw [yd8 he];exact hB _ _ wr wr.drew hJ ((Below.refl wr.heap.size wr).drew)⟩
                case measure=>simp [intOf];omega
            . obtain rfl:m=k:=by omega
              gi_wp2
              go_roundw
              case rel=>exact ⟨K,m+1,by omega,by go_num,by rw [yln];exact hJ⟩
              case measure=>simp [intOf];omega
        . obtain rfl:k=i:=by omega
          gi_wp2
          go_end0
          rw [yjn] at hJ;exact ⟨⟨_,rfl⟩,.inl ⟨_,hJ⟩⟩
theorem yep:ItOk Try.prog 66 zgd where
  can:=fun caps s k s' h _=>ya7 h
  plain:=fun k x hx σ=>by
    cases k with
    |nil=>simp [zgd] at hx
    |cons n l =>
      have h1:∀ n x,x∈zh1 n->RL (VR σ) x x:=by
        intro n
        induction n with
        |zero=>intro x hx;simp [zh1] at hx
        |succ n ih =>
          intro x hx;rw [zh1,iv] at hx;rcases hx with hx|hx
          . exact ih x hx
          . rw [ke] at hx;subst hx;exact ⟨zz4 _ _ _,trivial⟩
      have h2:∀ k i x,x∈zh7 l k i->RL (VR σ) x x:=by
        intro k i
        induction i with
        |zero=>intro x hx;simp [zh7] at hx
        |succ i ih =>
          intro x hx;rw [zh7,iv] at hx;rcases hx with hx|hx
          . exact ih x hx
          . rw [zcg] at hx;split at hx
            . simp only [List.mem_cons,List.not_mem_nil,or_false] at hx;rcases hx with rfl|rfl<;>exact ⟨zz4 _ _ _,trivial⟩
            . simp at hx
      have h3:∀ k x,x∈zcq l k->RL (VR σ) x x:=by
        intro k
        induction k with
        |zero=>intro x hx;simp [zcq] at hx
        |succ k ih =>
          intro x hx;rw [zcq,iv] at hx;rcases hx with hx|hx
          . exact ih x hx
          . exact h2 k k x hx
      rcases iv.1 hx with hx|hx
      . exact h1 n x hx
      . exact h3 n x hx
  enter:=enters_of Try.func66 (by kernel_rfl) rfl
  runs:=fun caps' k kd l J Jx W h1 h2 _ h4 h5 h6 h7=>z7x caps' k kd l J Jx W h1 h4 h5 h6 h2 h7
end
end Go.Proofs.Ytkfnjbfnkpameaa
