/- Part 5 of the proof of MergeStepsAsSpecified (several texts in one; no further condition). -/
import Derived.Test.YtkfnjbfnkpameaaZD
import Derived.Test.YtkfnjbfnkpameaaProg
import Derived.KernelRfl
import GoSem.Claim
import Derived.ProofKit
import Derived.OpenShut
import Derived.ShutString
import Derived.ChangeOld
import Derived.Below
import Derived.Carry
import Derived.Deep.Slices
import Derived.SizedLaws
import Derived.JoinedCond
import Derived.WalkKit
import Derived.LoopNIn
import Derived.LoopIn
import Derived.Test.YtkfnjbfnkpameaaZC
import Derived.Laws.BitsAllLaws
import Derived.RangeFuncBox
import Derived.RangeFuncLeaves
import Derived.Shelf.Abstract
import Derived.OwnWalkIn
import Derived.TacticsInMore
import Derived.BigRegionIn
import Derived.Deep.MidRow
set_option linter.unusedSimpArgs false
set_option linter.unusedVariables false
set_option linter.unusedSectionVars false
namespace Go.Proofs.Ytkfnjbfnkpameaa
open Go.Addr renaming add_lit->nr
open _root_.And renaming intro->fd
open _root_.Array renaming getElem?_eq_getElem->kw
open _root_.BitVec renaming ofInt->i8,toNat_and->oh,toNat_ofInt->ln,toNat_ofNat->po
open _root_.Bool renaming and_eq_true->fj,and_self->gc,eq_iff_iff->ku,true_and->jy
open _root_.Eq renaming trans->f6
open Go.Fence renaming wide->me
open _root_.Go.RowKit renaming wrap64->qc
open _root_.Int renaming ofNat->qp
open Go renaming IntKind->iu,Operand->f7,Program->gn,TypeId->gm
open Go.IntKind renaming i64->fi
open _root_.List renaming all_cons->jn,append_assoc->gj,append_nil->gt,cons_append->gq,drop_append->mh,drop_append_of_le_length->qj,drop_drop->lp,drop_eq_getElem_cons->ko,drop_of_length_le->iw,drop_succ_cons->kv,drop_zero->gp,flatMap_cons->jb,flatten_cons->ii,getElem?_append_left->gi,getElem?_append_right->im,getElem?_cons_zero->gz,getElem?_drop->lc,getElem?_eq_getElem->fk,getElem?_eq_some_iff->ge,getElem?_map->lj,getElem_of_mem->mq,length_append->fx,length_cons->gh,length_drop->jf,length_map->fq,length_nil->je,length_replicate->lf,length_set->qn,length_take->ik,map_cons->i4,map_nil->pd,mem_append->io,mem_map->jo,mem_singleton->gu,nil_append->gg,range'->qu,range'_succ->qa,replicate->gb,replicate_succ->jc,take_append->pc,take_append_drop->i9,take_append_of_le_length->jx,take_of_length_le->ij,take_zero->m7
open _root_.List.cons renaming injEq->ox
open _root_.Nat renaming add_mul->jm,add_zero->jq,beq->fy,eq_of_beq_eq_true->fl,le_refl->fp,log2->ke,log2_self_le->qd,mod_eq_of_lt->ni,mul_one->qi,not_lt_zero->nl,one_mul->m8,pow_le_pow_right->lz,reduceAdd->fw,reduceSub->iz,zero_add->i5,zero_le->ir
open Go.Op renaming equal->qz,equalIn->kx
open _root_.Option renaming bind_some->ff
open _root_.Option.some renaming injEq->fe
open _root_.Prod.mk renaming injEq->fm
open Go.Proofs.Ytkfnjbfnkpameaa.T renaming cells->jd,flatL->rc,ids->qr,idsL->kb,int->fh,one->na
open Go.Proofs.Ytkfnjbfnkpameaa.TS renaming set_ne->nc,set_same->m6
open Go.Proofs.Ytkfnjbfnkpameaa.VR renaming ofInt->pt
open Go.Value renaming bool->sc,int->jh,okWide->rf
open Go.World renaming cell?->rq
set_option maxRecDepth 100000
open Go Go.RowKit
structure Ar (n:Nat) where
  l:List Int
  h:l.length=n
deriving DecidableEq
instance {n:Nat}:Inhabited (Ar n):=⟨⟨gb n 0,lf⟩⟩
theorem Ar.ext' {n:Nat} {a b:Ar n} (h:a.l=b.l):a=b:=by cases a;cases b;cases h;rfl
theorem Ar.eq_iff {n:Nat} {a b:Ar n}:a=b↔a.l=b.l:=⟨fun h=>by rw [h],Ar.ext'⟩
def mkAr (n:Nat) (l:List Int):Ar n:=⟨(l++gb n 0).take n,by rw [ik,fx,lf];omega⟩
def zA (n:Nat):Ar n:=⟨gb n 0,lf⟩
def zVs (n:Nat) (k:iu):List Value:=gb n (.int k 0)
theorem ym0 {n:Nat} {k:iu}:zgi (zVs n k)=some ((zA n).l.map (fh k)):=by
  show zgi (gb n (.int k 0))=some ((gb n 0).map (fh k))
  induction n with
  |zero=>rfl
  |succ n ih=>rw [jc,jc,i4];unfold zgi;rw [ih];rfl
def eAr (k:iu) {n:Nat} (a:Ar n):T:=.agg (a.l.map (fh k))
theorem yek {k:iu} {n:Nat} (a:Ar n):(eAr k a).cells=a.l.map (fh k):=f6 rfl rfl
theorem zf6 {k:iu} {n:Nat} (a:Ar n):(eAr k a).cells.length=n:=by rw [yek,fq,a.h]
theorem zq6 {k:iu}:∀ (l:List Int),(l.map (fh k)).all na=true
  |[]=>rfl
  |x :: l=>by rw [i4,jn,zq6 l];rfl
theorem zgl {k:iu} {m:Nat}:∀ (l:List Int),kb m (l.map (fh k))=true
  |[]=>rfl
  |x :: l=>by simp only [i4,kb,qr,zgl l,gc]
theorem yi2 {k:iu} {m n:Nat} (a:Ar n):(eAr k a).ids m=true:=zgl a.l
theorem zuv {k:iu}:∀ (l:List Int),rc (l.map (fh k))=true
  |[]=>rfl
  |x :: l=>by simp only [i4,rc,T.flat,zuv l,gc]
section
variable {P:gn}
theorem z2i (len:Nat) (β:Type) (b:β) (f:Nat->β->Sem (ForInStep β)):(forIn [0:len] b f:Sem β)=forIn (qu 0 len) b f:=by
  rw [Std.Legacy.Range.forIn_eq_forIn_range'];simp [Std.Legacy.Range.size]
theorem zi7 {k:iu}:∀ (l:List Int),zgk (l.map (fh k))=some (l.map (jh k))
  |[]=>rfl
  |x :: l=>by rw [i4];unfold zgk;rw [zi7 l];rfl
theorem yl3 {σ:Type} (s0 s1:σ) (x y:List Int) (len:Nat) (hx:x.length=len) (hy:y.length=len) (f:Nat->σ->Sem (ForInStep σ))
    (hf:∀ i (hi:i<len),za7 P (f i s0)=some (if x[i]=y[i] then .yield s0 else .done s1)) :
    ∀ (m k:Nat),k+m=len->za7 P (forIn (qu k m) s0 f:Sem σ)=some (if x.drop k=y.drop k then s0 else s1):=by
  intro m
  induction m with
  |zero=>intro k hk;simp [iw (show x.length<=k by omega),iw (show y.length<=k by omega)];rfl
  |succ m ih =>
    intro k hk;have hdx:=ko (show k<x.length by omega);have hdy:=ko (show k<y.length by omega);rw [qa,List.forIn_cons,zak,hf k (by omega)];by_cases hxy:x[k]'(by omega)=y[k]'(by omega)
    . rw [zAc hxy];show za7 P (forIn (qu (k+1) m) s0 f)=_;rw [ih (k+1) (by omega),hdx,hdy];simp only [hxy,ox,true_and]
    . rw [zAd hxy,hdx,hdy];simp only [hxy,ox,false_and,if_false];rfl
theorem yod (d:Nat) {e:gm} (k k':iu) (a b:Int) (he:P.underlying e=some (.int k)):za7 P (kx (d+1) e (.int k' a) (.int k' b))=some (a == b):=by
  unfold kx;rw [zak,zcg he];cases k'<;>rfl
theorem yoe (d:Nat) {t e len:Nat} {k:iu} {i:TypeInfo} (ht:P.underlying t=some (.array len e)) (he:P.underlying e=some (.int k)) (hi:P.info? e=some i) (hsz:i.size=1) (x y:List Int) (hx:x.length=len) (hy:y.length=len) :
    za7 P (kx (d+2) t (.agg (x.map (jh k)).toArray) (.agg (y.map (jh k)).toArray))=some (x == y):=by
  have hpart:∀ (l:List Int) (j:Nat) (hk:j<l.length),za7 P (part e (l.map (jh k)).toArray j)=some (.int k l[j]):=by
    intro l j hk
    have hagg:za7 P (isAgg e)=some false:=by
      unfold isAgg;rw [zak,zcg he];rfl
    have hp:∀ v:Value,za7 P (pure v:Sem Value)=some v:=fun v=>rfl;simp [part,zak,hagg,hk,hp]
  have hq:∀ a b:Int,za7 P (kx (d+1) e (.int k a) (.int k b))=some (a == b):=fun a b=>yod d k k a b he;show za7 P (kx ((d+1)+1) _ _ _)=_;generalize d+1=d' at *
  have hsize:za7 P (sizeOf e)=some 1:=by
    unfold sizeOf typeInfo;rw [zak,zak];show ((za7 P (match P.info? e with|some i=>pure i|none=>_)).bind _)=_;rw [hi];show za7 P (pure i.size)=_;rw [hsz];rfl
  have hpu:∀ {α:Type} (v:α),za7 P (pure v:Sem α)=some v:=fun v=>rfl;simp only [kx,zak,zcg ht,ff,hsize,z2i,qi];rw [yl3 (P:=P) (none,()) (some false,()) x y len hx hy _ ?_ len 0 (by omega)]
  . by_cases hxy:x=y
    . subst hxy;simp [hpu]
    . simp [hxy,hpu]
  . intro j hk;simp only [zak,hpart x j (by omega),hpart y j (by omega),ff,hq];by_cases hxy:x[j]'(by omega)=y[j]'(by omega)
    . have e1:((x[j]'(by omega)) == (y[j]'(by omega)))=true:=by rw [hxy];simp
      rw [e1,zAc hxy];simp [hpu]
    . have e1:((x[j]'(by omega)) == (y[j]'(by omega)))=false:=by
        simp only [beq_eq_false_iff_ne,ne_eq];exact hxy
      rw [e1,zAd hxy];simp [hpu]
variable {Γ:Env} {S:TS} {t:gm} {x y:f7}
theorem ya3 {n e:Nat} {k:iu} (ht:P.underlying t=some (.array n e)) (he:P.underlying e=some (.int k)) (hi:(P.info? e).map (·.size)=some 1) (hq:P.eqGuardType P.depth t=false) (a b:Ar n) :
    tBin P Γ S t .eql x y (eAr k a) (eAr k b)=some (.bool (decide (a=b)))/\tBin P Γ S t .neq x y (eAr k a) (eAr k b)=some (.bool (!(decide (a=b)))):=by
  obtain ⟨i,hi1,hi2⟩:∃ i,P.info? e=some i/\i.size=1:=by
    cases h:P.info? e with
    |none=>rw [h] at hi;simp at hi
    |some i=>rw [h] at hi;exact ⟨i,rfl,by simpa using hi⟩
  have h:=yoe (P:=P) 9998 ht he hi1 hi2 a.l b.l a.h b.h
  have hg:∀ op,op=.eql\/op=.neq->za7 P (eqGuard op t x y (.agg (a.l.map (jh k)).toArray) (.agg (b.l.map (jh k)).toArray))=some ():=by
    intro op hop;rcases hop with rfl|rfl
    . show za7 P (if !(P.eqGuardType P.depth t) then pure () else _)=some ();rw [hq];rfl
    . show za7 P (if !(P.eqGuardType P.depth t) then pure () else _)=some ();rw [hq];rfl
  have hd:(a.l == b.l)=decide (a=b):=by
    by_cases hab:a=b
    . rw [hab];simp
    . rw [zAb hab];have:a.l≠b.l:=fun hh=>hab (Ar.ext' hh);simp [this]
  have he:za7 P (binOp .eql t (.agg (a.l.map (jh k)).toArray) (.agg (b.l.map (jh k)).toArray))=some (.bool (decide (a=b))):=by
    show za7 P (do pure (sc (<- qz t (.agg (a.l.map (jh k)).toArray) (.agg (b.l.map (jh k)).toArray))):Sem Value)=_;have h2:za7 P (qz t (.agg (a.l.map (jh k)).toArray) (.agg (b.l.map (jh k)).toArray))=some (a.l == b.l):=h;rw [zak,h2,hd];rfl
  have hn:za7 P (binOp .neq t (.agg (a.l.map (jh k)).toArray) (.agg (b.l.map (jh k)).toArray))=some (.bool (!(decide (a=b)))):=by
    show za7 P (do pure (sc (!(<- qz t (.agg (a.l.map (jh k)).toArray) (.agg (b.l.map (jh k)).toArray)))):Sem Value)=_;have h2:za7 P (qz t (.agg (a.l.map (jh k)).toArray) (.agg (b.l.map (jh k)).toArray))=some (a.l == b.l):=h;rw [zak,h2,hd];rfl
  constructor
  . show zol P t .eql x y _ _=_;unfold zol;rw [zi7,zi7];simp only;rw [zak,hg _ (.inl rfl)];show (match za7 P (binOp .eql t (.agg (a.l.map (jh k)).toArray) (.agg (b.l.map (jh k)).toArray)) with|some (.bool r)=>some (T.bool r)|_=>none)=_;rw [he]
  . show zol P t .neq x y _ _=_;unfold zol;rw [zi7,zi7];simp only;rw [zak,hg _ (.inr rfl)];show (match za7 P (binOp .neq t (.agg (a.l.map (jh k)).toArray) (.agg (b.l.map (jh k)).toArray)) with|some (.bool r)=>some (T.bool r)|_=>none)=_;rw [hn]
end
section
variable {GL:List (Nat×List Value)} {A A' A2:Nat->Prop} {β β' β2:Bx} {S S' S2:TS} {s s' s2:CS} {P:gn} {Γ:Env} {N:Nat} {h h' h2:Nat->T} {Q R:Exit->(Nat->T)->TS->Prop}
theorem VL.setAt {g:Nat->Fam} {t:T} {v:Value}:∀ {l:List T} {vs:List Value} {i:Nat},VL A β g l vs->vs[i]?=some v->VT A β g t v->VL A β g (l.set i t) vs
  |[],_,_,.nil,_,_=>.nil
  |x :: l,y :: vs,0,.cons k1 k2,hv,ht=>by
    simp only [gz,fe] at hv;subst hv;exact .cons ht k2
  |x :: l,y :: vs,i+1,.cons k1 k2,hv,ht=>.cons k1 (VL.setAt k2 (by simpa using hv) ht)
theorem TW.freezeC {c:Code} (c0 i:Nat) {b e len M N0:Nat} {z z0:Bool} {l l0:List T} (L:List T) (hS0:S.box c0=.cells z0 N0 l0) (hi:l0[i]?=some (.arr b e 0 len len M)) (hne:c0≠b) (hS:S.box b=.cells z M l) (he:0<e) (hoff:0+len*e<=M) (hL:(l.drop 0).take (len*e)=L.flatMap jd) (hs:∀ t,t∈L->t.cells.length=e) (hlen:L.length=len)
    (k:TW P Γ GL N c h ((S.set c0 (.cells z0 N0 (l0.set i (.lst e L)))).set b .gone) Q):TW P Γ GL N c h S Q:=by
  intro A β fr s hF hT;obtain ⟨A',β',k1,k2,k3⟩:=hT.freeze hS;obtain ⟨n0,hc⟩:=hT.cells c0 z0 N0 l0 hS0;have hS0':(S.set b .gone).box c0=.cells z0 N0 l0:=by rw [nc _ _ hne];exact hS0
  obtain ⟨n1,hc'⟩:=k1.cells c0 z0 N0 l0 hS0';have hi0:i<l0.length:=(ge.1 hi).1
  have hnew:zo6 A' β' (zaa s.obj) c0 z0 N0 (l0.set i (.lst e L)):=by
    rcases hc with ⟨_,q,_⟩|⟨f,u,cs,rest,a1,a2,a3,a4,a5⟩
    . omega
    . rcases hc' with ⟨_,q,_⟩|⟨f',u',cs',rest',b1,b2,b3,b4,b5⟩
      . omega
      . obtain ⟨l',c1,c2⟩:=k2.bx c0 _ a1;rw [b1] at c1;cases c1;simp only [Loc.le] at c2;rcases c2 with ⟨rfl,rfl,_⟩|c2
        . rw [a3] at b3;simp only [Fam.mk.injEq,ox,fm] at b3;obtain ⟨_,⟨⟨_,rfl⟩,rfl⟩,_⟩:=b3;obtain ⟨v,v1,v2⟩:=a4.get hi;refine ⟨by rw [qn];exact n0,.inr ⟨f,u,cs,rest,b1,a2,a3,b4.setAt v1 (k3 v2 he hoff hL hs hlen (fp _)),a5⟩⟩
        . omega
  have hT':TRel GL A' β' ((S.set c0 (.cells z0 N0 (l0.set i (.lst e L)))).set b .gone) s:=by
    refine ⟨k1.inr,k1.inv,k1.alt,k1.dis,k1.inj,k1.next,fun b' z N' l' hb'=>?_,fun b' l' hb'=>?_,k1.glob⟩
    . by_cases e1:b'=b
      . subst e1;rw [m6] at hb';cases hb'
      . rw [nc _ _ e1] at hb';by_cases e2:b'=c0
        . subst e2;rw [m6] at hb';cases hb';exact hnew
        . rw [nc _ _ e2] at hb';exact k1.cells b' z N' l' (by rw [nc _ _ e1];exact hb')
    . by_cases e1:b'=b
      . subst e1;rw [m6] at hb';cases hb'
      . rw [nc _ _ e1] at hb';by_cases e2:b'=c0
        . subst e2;rw [m6] at hb';cases hb'
        . rw [nc _ _ e2] at hb';exact k1.maps b' l' (by rw [nc _ _ e1];exact hb')
  have hF':FrOk A' β' (zaa s.obj) N h fr:=⟨hF.nt,hF.le,fun u=>k2.vt hT (hF.slot u)⟩;refine (k A' β' fr s hF' hT').mono ?_;rintro e2 fr2 s2 ⟨h2,S2,l2,q2⟩;exact ⟨h2,S2,Left.trans (h':=h) (fr':=fr) hT.le k2 l2,q2⟩
theorem TW.nilC {c:Code} (c0 i e:Nat) {N0:Nat} {z0:Bool} {l0:List T} (hS0:S.box c0=.cells z0 N0 l0) (hi:l0[i]?=some .nils) (k:TW P Γ GL N c h (S.set c0 (.cells z0 N0 (l0.set i (.lst e [])))) Q):TW P Γ GL N c h S Q:=by
  intro A β fr s hF hT;obtain ⟨n0,hc⟩:=hT.cells c0 z0 N0 l0 hS0;have hi0:i<l0.length:=(ge.1 hi).1
  have hnew:zo6 A β (zaa s.obj) c0 z0 N0 (l0.set i (.lst e [])):=by
    rcases hc with ⟨_,q,_⟩|⟨f,u,cs,rest,a1,a2,a3,a4,a5⟩
    . omega
    . obtain ⟨v,v1,v2⟩:=a4.get hi;refine ⟨by rw [qn];exact n0,.inr ⟨f,u,cs,rest,a1,a2,a3,a4.setAt v1 ?_,a5⟩⟩;cases v2;exact .lnil
  have hT':TRel GL A β (S.set c0 (.cells z0 N0 (l0.set i (.lst e [])))) s:=by
    refine ⟨hT.inr,hT.inv,hT.alt,hT.dis,hT.inj,hT.next,fun b' z N' l' hb'=>?_,fun b' l' hb'=>?_,hT.glob⟩
    . by_cases e2:b'=c0
      . subst e2;rw [m6] at hb';cases hb';exact hnew
      . rw [nc _ _ e2] at hb';exact hT.cells b' z N' l' hb'
    . by_cases e2:b'=c0
      . subst e2;rw [m6] at hb';cases hb'
      . rw [nc _ _ e2] at hb';exact hT.maps b' l' hb'
  exact k A β fr s hF hT'
theorem TW.vecC {c:Code} (c0 i e:Nat) {N0:Nat} {z0:Bool} {l0:List T} (hS0:S.box c0=.cells z0 N0 l0) (hi:l0[i]?=some .nils) (h0:c0<S.n) (k:TW P Γ GL N c h ((S.set c0 (.cells z0 N0 (l0.set i (.arr S.n e 0 0 0 0)))).add (.cells false 0 [])) Q):TW P Γ GL N c h S Q:=by
  intro A β fr s hF hT;have hb0:β S.n=none:=hT.next _ (fp _)
  have hle:Bx.le β (bnew β S.n .nil):=z0c hb0;have hse:bnew β S.n .nil S.n=some .nil:=zAc rfl;have hne:∀ b',b'≠S.n->bnew β S.n .nil b'=β b':=fun b' hb'=>zAd hb'
  have hown:∀ f,Own (bnew β S.n .nil) f->Own β f:=fun f ⟨b',hb'⟩=>by
    by_cases hi:b'=S.n
    . subst hi;rw [hse] at hb';rcases hb' with ⟨u,N,hb'⟩|hb'<;>simp at hb'
    . rw [hne b' hi] at hb';exact ⟨b',hb'⟩
  have hst:Stp A β s A (bnew β S.n .nil) s:=⟨Can.refl _,fun _ h=>h,fun _ h=>.inl h,fun f hf=>.inl (hown f hf),fun _ _ _=>rfl,hle,fun _ h=>.inl h,fun _ h=>.inl h⟩;obtain ⟨n0,hc⟩:=hT.cells c0 z0 N0 l0 hS0;have hi0:i<l0.length:=(ge.1 hi).1
  have hnew:zo6 A (bnew β S.n .nil) (zaa s.obj) c0 z0 N0 (l0.set i (.arr S.n e 0 0 0 0)):=by
    rcases hc with ⟨_,q,_⟩|⟨f,u,cs,rest,a1,a2,a3,a4,a5⟩
    . omega
    . obtain ⟨v,v1,v2⟩:=a4.get hi;have a4':=a4.mono (A':=A) (β':=bnew β S.n .nil) (g':=zaa s.obj) (fun _ h=>h) (fun _ _=>rfl) hle;refine ⟨by rw [qn];exact n0,.inr ⟨f,u,cs,rest,by rw [hne c0 (by omega)];exact a1,a2,a3,a4'.setAt v1 ?_,a5⟩⟩;cases v2;exact .arrNil hse
  have hT':TRel GL A (bnew β S.n .nil) ((S.set c0 (.cells z0 N0 (l0.set i (.arr S.n e 0 0 0 0)))).add (.cells false 0 [])) s:=by
    refine ⟨hT.inr,hT.inv,hT.alt,fun f hf=>hT.dis f (hown f hf),fun b1 b2 l1 l2 f h1 h2 h3 h4=>?_,fun b' hb'=>?_,fun b' z N l hb'=>?_,fun b' l hb'=>?_,hT.glob⟩
    . by_cases e1:b1=S.n
      . subst e1;rw [hse] at h1;cases h1;simp [Loc.fam] at h3
      . by_cases e2:b2=S.n
        . subst e2;rw [hse] at h2;cases h2;simp [Loc.fam] at h4
        . rw [hne b1 e1] at h1;rw [hne b2 e2] at h2;exact hT.inj b1 b2 l1 l2 f h1 h2 h3 h4
    . have:S.n+1<=b':=hb';rw [hne b' (by omega)];exact hT.next b' (by omega)
    . by_cases hi:b'=S.n
      . subst hi;have hq:=(TS.add_same (S.set c0 (.cells z0 N0 (l0.set i (.arr S.n e 0 0 0 0)))) (.cells false 0 [])).symm.trans hb';cases hq;exact ⟨rfl,.inl ⟨hse,rfl,rfl⟩⟩
      . rw [TS.add_ne _ _ (show b'≠(S.set c0 (.cells z0 N0 (l0.set i (.arr S.n e 0 0 0 0)))).n from hi)] at hb';by_cases e2:b'=c0
        . subst e2;rw [m6] at hb';cases hb';exact hnew
        . rw [nc _ _ e2] at hb';exact (hT.cells b' z N l hb').mono (fun _ h=>h) (fun _ _=>rfl) hle (hne b' hi) fun _ _ _ _=>rfl
    . by_cases hi:b'=S.n
      . subst hi;have hq:=(TS.add_same (S.set c0 (.cells z0 N0 (l0.set i (.arr S.n e 0 0 0 0)))) (.cells false 0 [])).symm.trans hb';cases hq
      . rw [TS.add_ne _ _ (show b'≠(S.set c0 (.cells z0 N0 (l0.set i (.arr S.n e 0 0 0 0)))).n from hi)] at hb';by_cases e2:b'=c0
        . subst e2;rw [m6] at hb';cases hb'
        . rw [nc _ _ e2] at hb';exact (hT.maps b' l hb').mono (fun _ h=>h) (fun _ _=>rfl) hle (hne b' hi) fun _ _=>rfl
  have hF':FrOk A (bnew β S.n .nil) (zaa s.obj) N h fr:=⟨hF.nt,hF.le,fun u=>hst.vt hT (hF.slot u)⟩;refine (k A _ fr s hF' hT').mono ?_;rintro e2 fr2 s2 ⟨h2,S2,l2,q2⟩;exact ⟨h2,S2,Left.trans (h':=h) (fr':=fr) hT.le hst l2,q2⟩
end
theorem zgg {α:Type} (f:α->T) (l:List α):(l.map f).flatMap jd=vecC f l:=rfl
theorem zet {α:Type} {f:α->T} (h:∀ x,(f x).cells.all na=true):∀ (l:List α),(vecC f l).all na=true
  |[]=>rfl
  |x :: l=>by
    have ih:=zet h l;unfold vecC at ih ⊢;rw [i4,jb,List.all_append,h,ih];rfl
def Le1:List T->List T->Prop
  |[],[]=>True
  |t :: l,t' :: l'=>(t=t'\/(t=.nils/\∃ e,t'=.lst e []))/\Le1 l l'
  |_,_=>False
def Le2:List T->List T->Prop
  |[],[]=>True
  |t :: l,t' :: l'=>(t=t'\/(t=.nils/\∃ e,t'=.lst e [])\/∃ m m',t=.agg m/\t'=.agg m'/\Le1 m m')/\Le2 l l'
  |_,_=>False
theorem Le1.vl {A:Nat->Prop} {β:Bx} {g:Nat->Fam}:∀ {l l':List T} {vs:List Value},Le1 l l'->VL A β g l vs->VL A β g l' vs
  |[],[],_,_,.nil=>.nil
  |t :: l,t' :: l',_,h,.cons k1 k2=>by
    obtain ⟨h1,h2⟩:=h;rcases h1 with rfl|⟨rfl,e,rfl⟩
    . exact .cons k1 (Le1.vl h2 k2)
    . cases k1;exact .cons .lnil (Le1.vl h2 k2)
theorem Le2.vl {A:Nat->Prop} {β:Bx} {g:Nat->Fam}:∀ {l l':List T} {vs:List Value},Le2 l l'->VL A β g l vs->VL A β g l' vs
  |[],[],_,_,.nil=>.nil
  |t :: l,t' :: l',_,h,.cons k1 k2=>by
    obtain ⟨h1,h2⟩:=h;rcases h1 with rfl|⟨rfl,e,rfl⟩|⟨m,m',rfl,rfl,h3⟩
    . exact .cons k1 (Le2.vl h2 k2)
    . cases k1;exact .cons .lnil (Le2.vl h2 k2)
    . cases k1 with|agg k=>exact .cons (.agg (h3.vl k)) (Le2.vl h2 k2)
theorem yol {n:Nat} {i:Int} (h:0<=i/\i<=(n:Int)):zb2 n n (some (.int .i64 i)) none none=some (i.toNat,n,n):=by
  obtain ⟨k,rfl⟩:∃ k:Nat,i=(k:Int):=⟨i.toNat,by omega⟩;exact yhj rfl (by omega) (fp _)
theorem Ar.len {n:Nat} (a:Ar n):a.l.length=n:=a.h
def Ar.set {n:Nat} (a:Ar n) (i v:Int):Ar n:=⟨a.l.set i.toNat v,by rw [qn,a.h]⟩
theorem yej {k:iu} {n:Nat} (a:Ar n):eAr k a=.agg (a.l.map (fh k)):=f6 rfl rfl
theorem arIx {n:Nat} (a:Ar n) {i:Int} (h:0<=i/\i<(n:Int)):a.l[i.toNat]?=some (gx a.l i):=zag (by rw [a.h];exact h)
theorem arSpl {k:iu} {n:Nat} (a b:Ar n):spl (a.l.map (fh k)) 0 (b.l.map (fh k))=b.l.map (fh k):=by
  unfold spl;rw [m7,gg,iw (by rw [fq,fq,a.h,b.h];omega),gt]
theorem yoq {k:iu} {n:Nat} (a:Ar n) {i:Int} (v:Int) (h:0<=i/\i<(n:Int)):spl (a.l.map (fh k)) i.toNat [fh k v]=(a.set i v).l.map (fh k):=by
  exact ylb (f:=fh k) (v:=v) (L:=a.l) (i:=i.toNat) (by rw [a.h];omega)
def u8o (z:Int):UInt8:=UInt8.ofNat z.toNat
def strL (l:List Int):ByteArray:=⟨(l.map u8o).toArray⟩
def bytL (s:ByteArray):List Int:=s.data.toList.map fun c=>(c.toNat:Int)
theorem z8u (s:ByteArray):(bytL s).length=s.size:=by unfold bytL;rw [fq];exact Array.length_toList
theorem z3d (s:ByteArray):zhu s=(bytL s).map (fh .u8):=by
  unfold zhu bytL;rw [List.map_map];rfl
theorem z0e:∀ (l:List Int),zve (l.map (fh .u8))=some (l.map u8o)
  |[]=>rfl
  |x :: l=>by rw [i4];unfold zve;rw [z0e l];rfl
theorem z5v (l:List Int):(⟨(l.map u8o).toArray⟩:ByteArray)=strL l:=f6 rfl rfl
theorem zz8 {k:iu}:∀ (l:List Int),(l.map (fh k)).flatMap jd=l.map (fh k)
  |[]=>rfl
  |x :: l=>by rw [i4,jb,zz8 l];rfl
theorem yk5 {k:iu} {l:List Int} {n:Nat} (h:l.length=n):(l.map (fh k)).take n=l.map (fh k):=ij (by rw [fq,h];omega)
theorem yav {k:iu} {l:List Int}:(l.map (fh k)).take l.length=l.map (fh k):=yk5 rfl
def cpA {n:Nat} (a:Ar n) (s:ByteArray):Ar n:=⟨(bytL s).take (min s.size n)++a.l.drop (min s.size n),by rw [fx,ik,jf,z8u,a.h];omega⟩
theorem ykq {n:Nat} (a:Ar n) (s:ByteArray):spl (a.l.map (fh .u8)) 0 (((bytL s).map (fh .u8)).take (min s.size n))=(cpA a s).l.map (fh .u8):=by
  unfold spl cpA;rw [m7,gg,ik,fq,z8u,List.map_append,List.map_take,List.map_drop,i5];congr 2;omega
theorem yfe {k:iu} {l:List Int} {n:Nat}:((l.map (fh k)).take n).all na=true:=by rw [<- List.map_take];exact zq6 _
theorem ykp {n:Nat}:zb2 n n none none none=some (0,n,n):=z98 (fp _)
theorem ygj {d k:Nat}:natO d (some (.int .i64 (k:Int)))=some k:=by
  rfl
theorem yom {n:Nat} {j:Int} (h:0<=j/\j<=(n:Int)):zb2 n n none (some (.int .i64 j)) none=some (0,j.toNat,n):=by
  obtain ⟨b,rfl⟩:∃ k:Nat,j=(k:Int):=⟨j.toNat,by omega⟩;rw [zoc,ygj];show (bif Nat.ble 0 b && Nat.ble b n && Nat.ble n n && _ then some (0,b,n) else none)=_;rw [zhe (by omega),zhe (by omega),zhe (fp _)];rfl
theorem sub0 {n:Nat}:n - 0=n:=Nat.sub_zero n
inductive CK where
  |int (k:iu)
  |bool
  |str
def ckV:CK->Value->Bool
  |.int k,.int k' _=>decide (k=k')
  |.bool,.bool _=>true
  |.str,.string _=>true
  |_,_=>false
def zek:List CK->List Value->Bool
  |[],[]=>true
  |c :: l,v :: m=>ckV c v && zek l m
  |_,_=>false
def zni:Value->Value->Bool
  |.int _ a,.int _ b=>a == b
  |.bool a,.bool b=>a == b
  |.string a,.string b=>a == b
  |_,_=>false
def eqVs:List Value->List Value->Bool
  |v :: l,w :: m=>zni v w && eqVs l m
  |_,_=>true
theorem zp7:∀ {sh:List CK} {xs:List Value},zek sh xs=true->xs.length=sh.length
  |[],[],_=>rfl
  |_ :: _,_ :: _,h=>by
    simp only [zek,fj] at h;rw [gh,gh,zp7 h.2]
  |[],_ :: _,h=>by simp [zek] at h
  |_ :: _,[],h=>by simp [zek] at h
theorem zn7 {c:CK}:∀ {xs:List Value},zek [c] xs=true->∃ v,xs=[v]/\ckV c v=true
  |[],h=>by simp [zek] at h
  |[v],h=>⟨v,rfl,by simpa [zek] using h⟩
  |_ :: _ :: _,h=>by simp [zek] at h
theorem zq3:∀ {a b:List CK} {xs:List Value},zek (a++b) xs=true->zek a (xs.take a.length)=true/\zek b (xs.drop a.length)=true
  |[],b,xs,h=>⟨by simp [zek],by simpa using h⟩
  |c :: a,b,[],h=>by simp [zek] at h
  |c :: a,b,v :: xs,h=>by
    simp only [gq,zek,fj] at h;obtain ⟨h1,h2⟩:=zq3 h.2;exact ⟨by simp only [gh,List.take_succ_cons,zek,h.1,h1,gc],by simpa using h2⟩
theorem zl1:∀ {a b c d:List Value},a.length=c.length->eqVs (a++b) (c++d)=(eqVs a c && eqVs b d)
  |[],b,[],d,_=>rfl
  |x :: a,b,y :: c,d,h=>by
    simp only [gq,eqVs,zl1 (Nat.succ.inj h),Bool.and_assoc]
  |[],_,_ :: _,_,h=>by simp at h
  |_ :: _,_,[],_,h=>by simp at h
def valA (a:Bool) (xs:List Value):Value:=if a then .agg xs.toArray else xs.headD undef
noncomputable def zoq (P:gn) (g:gm->Option (Bool×List CK)):List Field->Nat->Option (List CK)
  |[],_=>some []
  |f :: l,off=>match g f.type,(P.info? f.type).map (fun i=>i.size) with
    | some (_, sh), some sz => if f.name ≠ "_" /\ f.offset = off /\ sz = sh.length then
        (match zoq P g l (off+sh.length) with|some r=>some (sh++r)|none=>none) else none
    |_,_=>none
noncomputable def zg2 (P:gn):Nat->gm->Option (Bool×List CK)
  |0,_=>none
  |d+1,t=>match P.underlying t with
    |some (.int k)=>some (false,[.int k])
    |some .bool=>some (false,[.bool])
    |some .string=>some (false,[.str])
    |some (.struct fs)=>if P.stoodInHeld t=true then none else (match zoq P (zg2 P d) fs.toList 0 with|some l=>some (true,l)|none=>none)
    |some (.array n e)=>(match zg2 P d e,(P.info? e).map (fun i=>i.size) with
      |some (_,sh),some sz=>if sz=sh.length then some (true,(gb n sh).flatten) else none
      |_,_=>none)
    |_=>none
section
variable {P:gn}
theorem zz1 {α σ:Type} (s0 s1:σ) (f:α->σ->Sem (ForInStep σ)) (b:α->Bool):∀ (l:List α),(∀ x,x∈l->za7 P (f x s0)=some (if b x then .yield s0 else .done s1))->za7 P (forIn l s0 f:Sem σ)=some (if l.all b then s0 else s1)
  |[],_=>by simp;rfl
  |x :: l,h=>by
    rw [List.forIn_cons,zak,h x (.head _)]
    cases hb:b x with
    |true =>
      show za7 P (forIn l s0 f)=_;rw [zz1 s0 s1 f b l fun y hy=>h y (.tail _ hy),jn,hb,jy]
    |false =>
      rw [jn,hb,Bool.false_and];rfl
theorem yg8 {d:Nat} {t:gm} {a:Bool} {sh:List CK} (h:zg2 P d t=some (a,sh)):za7 P (isAgg t)=some a:=by
  cases d with
  |zero=>simp [zg2] at h
  |succ d =>
    unfold zg2 at h;unfold isAgg;rw [zak]
    cases hu:P.underlying t with
    |none=>rw [hu] at h;simp at h
    |some u =>
      rw [hu] at h;rw [zcg hu]
      cases u with
      |int k=>simp at h;rw [<- h.1];rfl
      |bool=>simp at h;rw [<- h.1];rfl
      |string=>simp at h;rw [<- h.1];rfl
      |struct fs =>
        simp only at h;split at h
        . simp at h
        . split at h
          . simp at h;rw [<- h.1];rfl
          . simp at h
      |array n e =>
        simp only at h;split at h
        . split at h
          . simp at h;rw [<- h.1];rfl
          . simp at h
        . simp at h
      |_=>simp at h
theorem ybk {d:Nat} {t:gm} {sh:List CK} (h:zg2 P d t=some (false,sh)):∃ c,sh=[c]:=by
  cases d with
  |zero=>simp [zg2] at h
  |succ d =>
    unfold zg2 at h;split at h
    . simp at h;exact ⟨_,h.symm⟩
    . simp at h;exact ⟨_,h.symm⟩
    . simp at h;exact ⟨_,h.symm⟩
    . split at h
      . simp at h
      . split at h<;>simp at h
    . split at h
      . split at h<;>simp at h
      . simp at h
    . simp at h
theorem z2p {t:gm} {sz:Nat} (h:(P.info? t).map (fun i=>i.size)=some sz):za7 P (sizeOf t)=some sz:=by
  cases hi:P.info? t with
  |none=>rw [hi] at h;simp at h
  |some i =>
    rw [hi] at h;unfold sizeOf typeInfo;rw [zak,zak];show ((za7 P (match P.info? t with|some i=>pure i|none=>_)).bind _)=_;rw [hi];simp at h;show za7 P (pure i.size)=_;rw [h];rfl
theorem zsu {d : Nat} {t : gm} {a : Bool} {sh : List CK} (h : zg2 P d t = some (a, sh)) (hs : (P.info? t).map (fun i => i.size) = some sh.length) (xs : List Value) (off : Nat) (hl : off + sh.length <= xs.length) :
    za7 P (part t xs.toArray off)=some (valA a ((xs.drop off).take sh.length)):=by
  unfold part;rw [zak,yg8 h]
  cases a with
  |true =>
    show za7 P (do let n <- sizeOf t;pure (Value.agg (xs.toArray.extract off (off+n))))=_;rw [zak,z2p hs];show some (Value.agg (xs.toArray.extract off (off+sh.length)))=_;rw [List.extract_toArray,List.extract_eq_take_drop,Nat.add_sub_cancel_left];rfl
  |false =>
    obtain ⟨c,rfl⟩:=ybk h;simp only [gh,je,i5] at hl ⊢;show za7 P (match xs.toArray[off]? with|some v=>pure v|none=>_)=_;rw [List.getElem?_toArray,fk (by omega),ko (by omega)];rfl
theorem zx1 {g:gm->Option (Bool×List CK)}:∀ {l:List Field} {off:Nat} {sh:List CK} {xs ys:List Value},zoq P g l off=some sh->xs.length=off+sh.length->ys.length=off+sh.length ->
    (l.all fun f=>match g f.type with|some (_,s)=>eqVs ((xs.drop f.offset).take s.length) ((ys.drop f.offset).take s.length)|none=>true)=eqVs (xs.drop off) (ys.drop off)
  |[],off,sh,xs,ys,h,hx,hy=>by
    simp only [zoq,fe] at h;subst h;rw [iw (by simp at hx;omega),iw (by simp at hy;omega)];rfl
  |f :: l,off,sh,xs,ys,h,hx,hy=>by
    unfold zoq at h;split at h
    . rename_i a s sz hg hs;split at h
      . rename_i hc;split at h
        . rename_i r hr;cases h;rw [fx] at hx hy;rw [jn,zx1 hr (by omega) (by omega),hg];simp only;rw [hc.2.1]
          have hr2:eqVs (xs.drop off) (ys.drop off)=(eqVs ((xs.drop off).take s.length) ((ys.drop off).take s.length) && eqVs (xs.drop (off+s.length)) (ys.drop (off+s.length))):=by
            conv=>lhs;rw [<- i9 s.length (xs.drop off),<- i9 s.length (ys.drop off)]
            rw [zl1 (by rw [ik,ik,jf,jf];omega),lp,lp]
          rw [hr2]
        . cases h
      . cases h
    . cases h
theorem zop {g : gm -> Option (Bool × List CK)} : ∀ {l : List Field} {off : Nat} {sh : List CK} {xs : List Value}, zoq P g l off = some sh -> xs.length = off + sh.length -> zek sh (xs.drop off) = true -> ∀ f, f ∈ l -> ∃ a s, g f.type = some (a, s) /\ (P.info? f.type).map (fun i => i.size) = some s.length /\ f.name ≠ "_" /\ f.offset + s.length <= xs.length /\ zek s ((xs.drop f.offset).take s.length) = true
  |[],off,sh,xs,h,hx,hf,f,hm=>by cases hm
  |f' :: l,off,sh,xs,h,hx,hf,f,hm=>by
    unfold zoq at h;split at h
    . rename_i a s sz hg hs;split at h
      . rename_i hc;split at h
        . rename_i r hr;cases h;rw [fx] at hx;obtain ⟨f1,f2⟩:=zq3 hf;rw [lp] at f2
          cases hm with
          |head=>exact ⟨a,s,hg,by rw [hs,hc.2.2],hc.1,by rw [hc.2.1];omega,by rw [hc.2.1];exact f1⟩
          |tail _ hm=>exact zop hr (by omega) f2 f hm
        . cases h
      . cases h
    . cases h
theorem z72 {s:List CK}:∀ (n k:Nat) {xs ys:List Value},xs.length=(k+n)*s.length->ys.length=(k+n)*s.length ->
    ((qu k n).all fun i=>eqVs ((xs.drop (i*s.length)).take s.length) ((ys.drop (i*s.length)).take s.length))=eqVs (xs.drop (k*s.length)) (ys.drop (k*s.length))
  |0,k,xs,ys,hx,hy=>by
    rw [iw (by rw [hx];exact fp _),iw (by rw [hy];exact fp _)];rfl
  |n+1,k,xs,ys,hx,hy=>by
    have e:(k+(n+1))*s.length=k*s.length+s.length+n*s.length:=by rw [jm,jm,m8];omega
    rw [qa,jn,z72 n (k+1) (by rw [hx];congr 1;omega) (by rw [hy];congr 1;omega)];rw [jm,m8,<- lp,<- lp,<- zl1 (by rw [ik,ik,jf,jf];omega),i9,i9]
theorem zzx {s:List CK}:∀ {n:Nat} {xs:List Value},zek (gb n s).flatten xs=true->∀ i,i<n->zek s ((xs.drop (i*s.length)).take s.length)=true
  |0,xs,h,i,hi=>by omega
  |n+1,xs,h,i,hi=>by
    rw [jc,ii] at h;obtain ⟨h1,h2⟩:=zq3 h
    cases i with
    |zero=>simpa using h1
    |succ i =>
      have:=zzx h2 i (by omega);rw [lp] at this;rw [jm,m8,Nat.add_comm];exact this
theorem ykc:∀ (d:Nat) {t:gm} {a:Bool} {sh:List CK},zg2 P d t=some (a,sh)->∀ {xs ys:List Value},zek sh xs=true->zek sh ys=true->za7 P (kx d t (valA a xs) (valA a ys))=some (eqVs xs ys):=by
  intro d
  induction d with
  |zero=>intro t a sh h;simp [zg2] at h
  |succ d ih =>
    intro t a sh h xs ys hx hy;have hpu:∀ {α:Type} (v:α),za7 P (pure v:Sem α)=some v:=fun v=>rfl;unfold zg2 at h;unfold kx;rw [zak]
    cases hu:P.underlying t with
    |none=>rw [hu] at h;simp at h
    |some u =>
      rw [hu] at h;rw [zcg hu]
      cases u with
      |int k =>
        simp at h;obtain ⟨rfl,rfl⟩:=h;obtain ⟨v,rfl,h1⟩:=zn7 hx;obtain ⟨w,rfl,h2⟩:=zn7 hy
        . cases v<;>simp [ckV] at h1;cases w<;>simp [ckV] at h2;subst h1 h2
          simp [valA,eqVs,zni,hpu]
      |bool =>
        simp at h;obtain ⟨rfl,rfl⟩:=h;obtain ⟨v,rfl,h1⟩:=zn7 hx;obtain ⟨w,rfl,h2⟩:=zn7 hy
        . cases v<;>simp [ckV] at h1;cases w<;>simp [ckV] at h2
          simp [valA,eqVs,zni,hpu]
      |string =>
        simp at h;obtain ⟨rfl,rfl⟩:=h;obtain ⟨v,rfl,h1⟩:=zn7 hx;obtain ⟨w,rfl,h2⟩:=zn7 hy
        . cases v<;>simp [ckV] at h1;cases w<;>simp [ckV] at h2
          simp [valA,eqVs,zni,hpu]
      |struct fs =>
        simp only at h;split at h
        . simp at h
        . rename_i hst;split at h
          . rename_i l hl;simp at h;obtain ⟨rfl,rfl⟩:=h;have lx:=zp7 hx;have ly:=zp7 hy;have hall:=zx1 hl (by rw [lx];omega) (by rw [ly];omega);rw [gp,gp] at hall;simp only [valA,if_true,ff];rw [zak];show (((some P:Option gn)).bind _)=_;simp only [ff,zAd hst];rw [zak];show ((za7 P (forIn fs _ _)).bind _)=_;rw [<- Array.forIn_toList];rw [zz1 (P:=P) (none,()) (some false,()) _ (fun f=>match zg2 P d f.type with|some (_,s)=>eqVs ((xs.drop f.offset).take s.length) ((ys.drop f.offset).take s.length)|none=>true) fs.toList ?_]
            . rw [hall];cases eqVs xs ys<;>rfl
            . intro f hf;obtain ⟨a,s,g1,g2,g3,g4,g5⟩:=zop hl (by rw [lx];omega) (by rw [gp];exact hx) f hf;obtain ⟨a',s',g1',_,_,g4',g5'⟩:=zop hl (by rw [ly];omega) (by rw [gp];exact hy) f hf;rw [g1] at g1';cases g1';rw [zAc g3,zak,zsu g1 g2 _ _ g4];simp only [ff];rw [zak,zsu g1 g2 _ _ g4'];simp only [ff];rw [zak,ih g1 g5 g5',g1];simp only [ff];have hq:∀ q:Bool,za7 P (if (!q)=true then pure (ForInStep.done (some false,())) else pure (ForInStep.yield (none,())):Sem (ForInStep (Option Bool×Unit)))=some (if q=true then .yield (none,()) else .done (some false,())):=by intro q;cases q<;>rfl
              exact hq _
          . simp at h
      |array n e =>
        simp only at h;split at h
        . rename_i ae se sz hse hsz;split at h
          . rename_i hc;subst hc;simp at h;obtain ⟨rfl,rfl⟩:=h;have lx:=zp7 hx;have ly:=zp7 hy;have hlen:(gb n se).flatten.length=n*se.length:=by simp
            rw [hlen] at lx ly;simp only [valA,if_true,ff];rw [zak,z2p hsz];simp only [ff,z2i];rw [zak,zz1 (P:=P) (none,()) (some false,()) _ (fun i=>eqVs ((xs.drop (i*se.length)).take se.length) ((ys.drop (i*se.length)).take se.length)) (qu 0 n) ?_]
            . rw [z72 n 0 (by rw [lx];congr 1;omega) (by rw [ly];congr 1;omega),Nat.zero_mul,gp,gp];cases eqVs xs ys<;>rfl
            . intro i hi;have hin:i<n:=by have:=List.mem_range'_1.1 hi;omega
              have hle:i*se.length+se.length<=n*se.length:=by
                have:=Nat.mul_le_mul_right se.length (show i+1<=n by omega);rw [jm,m8] at this;exact this
              rw [zak,zsu hse hsz _ _ (by omega)];simp only [ff];rw [zak,zsu hse hsz _ _ (by omega)];simp only [ff];rw [zak,ih hse (zzx hx i hin) (zzx hy i hin)];simp only [ff];have hq:∀ q:Bool,za7 P (if (!q)=true then pure (ForInStep.done (some false,())) else pure (ForInStep.yield (none,())):Sem (ForInStep (Option Bool×Unit)))=some (if q=true then .yield (none,()) else .done (some false,())):=by intro q;cases q<;>rfl
              exact hq _
          . simp at h
        . simp at h
      |_=>simp at h
variable {Γ:Env} {S:TS} {t:gm} {x y:f7}
theorem zqq {sh:List CK} {l m:List T} {vs ws:List Value} (ht:zg2 P 10000 t=some (true,sh)) (hq:P.eqGuardType P.depth t=false) (hl:zgk l=some vs) (hm:zgk m=some ws) (hx:zek sh vs=true) (hy:zek sh ws=true) {b:Bool} (hb:eqVs vs ws=b) :
    tBin P Γ S t .eql x y (.agg l) (.agg m)=some (.bool b)/\tBin P Γ S t .neq x y (.agg l) (.agg m)=some (.bool (!b)):=by
  have h:za7 P (qz t (.agg vs.toArray) (.agg ws.toArray))=some b:=by rw [<- hb];exact ykc 10000 ht hx hy
  have hg:∀ op,op=.eql\/op=.neq->za7 P (eqGuard op t x y (.agg vs.toArray) (.agg ws.toArray))=some ():=by
    intro op hop;rcases hop with rfl|rfl
    . show za7 P (if !(P.eqGuardType P.depth t) then pure () else _)=some ();rw [hq];rfl
    . show za7 P (if !(P.eqGuardType P.depth t) then pure () else _)=some ();rw [hq];rfl
  have he:za7 P (binOp .eql t (.agg vs.toArray) (.agg ws.toArray))=some (.bool b):=by
    show za7 P (do pure (sc (<- qz t (.agg vs.toArray) (.agg ws.toArray))):Sem Value)=_;rw [zak,h];rfl
  have hn:za7 P (binOp .neq t (.agg vs.toArray) (.agg ws.toArray))=some (.bool (!b)):=by
    show za7 P (do pure (sc (!(<- qz t (.agg vs.toArray) (.agg ws.toArray)))):Sem Value)=_;rw [zak,h];rfl
  constructor
  . show zol P t .eql x y _ _=_;unfold zol;rw [hl,hm];simp only;rw [zak,hg _ (.inl rfl)];show (match za7 P (binOp .eql t (.agg vs.toArray) (.agg ws.toArray)) with|some (.bool r)=>some (T.bool r)|_=>none)=_;rw [he]
  . show zol P t .neq x y _ _=_;unfold zol;rw [hl,hm];simp only;rw [zak,hg _ (.inr rfl)];show (match za7 P (binOp .neq t (.agg vs.toArray) (.agg ws.toArray)) with|some (.bool r)=>some (T.bool r)|_=>none)=_;rw [hn]
theorem zlt:∀ {a b:List T} {x y:List Value},zgk a=some x->zgk b=some y->zgk (a++b)=some (x++y)
  |[],b,x,y,h,h2=>by simp only [zgk,fe] at h;subst h;exact h2
  |t :: a,b,x,y,h,h2=>by
    unfold zgk at h;split at h
    . rename_i v r e1 e2;cases h;rw [gq];unfold zgk;rw [e1,zlt e2 h2];rfl
    . cases h
theorem z2r {k:iu}:∀ {a b:List Int},a.length=b.length->eqVs (a.map (jh k)) (b.map (jh k))=decide (a=b)
  |[],[],_=>rfl
  |x :: a,y :: b,h=>by
    rw [i4,i4,eqVs,z2r (Nat.succ.inj h)];simp only [zni,ox,Bool.decide_and]
    congr 1
  |[],_ :: _,h=>by simp at h
  |_ :: _,[],h=>by simp at h
theorem zz2 {k:iu} {n:Nat} (a b:Ar n):eqVs (a.l.map (jh k)) (b.l.map (jh k))=decide (a=b):=by
  rw [z2r (by rw [a.h,b.h])];exact decide_eq_decide.2 (Ar.eq_iff.symm)
theorem z2m {k:iu}:∀ {l:List Int} {r:List CK} {vs:List Value},zek r vs=true->zek (gb l.length (.int k)++r) (l.map (jh k)++vs)=true
  |[],r,vs,h=>h
  |x :: l,r,vs,h=>by
    rw [gh,jc,i4,gq,gq,zek,z2m h];simp [ckV]
end
section
variable {k:iu} {n m:Nat} (a b:Ar n) (r xs:List T)
theorem sgT (h:n<=m):(a.l.map (fh k)++r).take m=a.l.map (fh k)++r.take (m - n):=by
  rw [pc,ij (by rw [fq,a.h];exact h),fq,a.h]
theorem sgT1 (h:n<=m):(a.l.map (fh k)).take m=a.l.map (fh k):=ij (by rw [fq,a.h];exact h)
theorem sgD (h:n<=m):(a.l.map (fh k)++r).drop m=r.drop (m - n):=by
  rw [mh,iw (by rw [fq,a.h];exact h),gg,fq,a.h]
theorem sgD1 (h:n<=m):(a.l.map (fh k)).drop m=[]:=iw (by rw [fq,a.h];exact h)
theorem sgG (h:n<=m):(a.l.map (fh k)++r)[m]?=r[m - n]?:=by
  rw [im (by rw [fq,a.h];exact h),fq,a.h]
theorem splA:spl (a.l.map (fh k)++r) 0 (b.l.map (fh k)++xs)=b.l.map (fh k)++spl r 0 xs:=by
  unfold spl;rw [m7,m7,gg,gg,gj,i5,i5,fx,fq,b.h,<- lp];congr 3;rw [mh,iw (by rw [fq,a.h];exact fp _),fq,a.h,Nat.sub_self];rfl
theorem yng:spl (a.l.map (fh k)++r) 0 (b.l.map (fh k))=b.l.map (fh k)++r:=by
  have:=splA (k:=k) a b r [];rw [gt] at this;rw [this,yld]
theorem ynf:spl (a.l.map (fh k)) 0 (b.l.map (fh k))=b.l.map (fh k):=arSpl a b
theorem splS (h:n<=m):spl (a.l.map (fh k)++r) m xs=a.l.map (fh k)++spl r (m - n) xs:=by
  unfold spl;rw [sgT a r h,mh,iw (by rw [fq,a.h];omega),fq,a.h,gg];simp only [gj];congr 4;omega
theorem z32 (v:T) (h:n<=m):(a.l.map (fh k)++r).set m v=a.l.map (fh k)++r.set (m - n) v:=by
  rw [List.set_append,zAd (by rw [fq,a.h];omega),fq,a.h]
end
theorem zok {k:iu} {n off:Nat} {L r:List T} (a:Ar n) {i:Int} (h:0<=i/\i<(n:Int)) (hL:L.drop off=a.l.map (fh k)++r:=by first|rfl | (simp (disch:=decide) only [gj,gt,fx,gq,gg,fq,gh,je,Ar.len,sgD,sgD1,kv,gp,iz,fw,i5];done)):L[off+i.toNat]?=some (fh k (gx a.l i)):=by
  rw [<- lc,hL,gi (by rw [fq,a.h];omega),lj,arIx a h];rfl
theorem zq8 {k:iu} {n:Nat} {L r:List T} (a:Ar n) {i:Int} (h:0<=i/\i<(n:Int)) (hL:L=a.l.map (fh k)++r:=by first|rfl | (simp (disch:=decide) only [gj,gt,fx,gq,gg,fq,gh,je,Ar.len,sgD,sgD1,kv,gp,iz,fw,i5];done)):L[i.toNat]?=some (fh k (gx a.l i)):=by
  have:=zok (off:=0) (L:=L) a h (by rw [gp];exact hL)
  rwa [i5] at this
theorem setAt {k:iu} {n off:Nat} {L L2 p r:List T} (a:Ar n) {i:Int} (v:Int) (h:0<=i/\i<(n:Int)) (hL:L=p++(a.l.map (fh k)++r):=by first|rfl | (simp (disch:=decide) only [gj,gt,fx,gq,gg,fq,gh,je,Ar.len,sgD,sgD1,kv,gp,iz,fw,i5];done)) (hp:p.length=off:=by first|rfl | (simp (disch:=decide) only [gj,gt,fx,gq,gg,fq,gh,je,Ar.len,sgD,sgD1,kv,gp,iz,fw,i5];done)) (h2:L2=p++((a.set i v).l.map (fh k)++r):=by first|rfl | (simp (disch:=decide) only [gj,gt,fx,gq,gg,fq,gh,je,Ar.len,sgD,sgD1,kv,gp,iz,fw,i5];done)):spl L (off+i.toNat) [fh k v]=L2:=by
  subst hL h2;have hs:=yoq (k:=k) a v h;unfold spl at hs ⊢;have hi:i.toNat+1<=n:=by omega
  rw [<- hs];simp only [gh,je,i5];rw [pc,ij (show p.length<=off+i.toNat by omega),show off+i.toNat - p.length=i.toNat by omega,jx (by rw [fq,a.h];omega)];rw [mh,iw (show p.length<=off+i.toNat+1 by omega),show off+i.toNat+1 - p.length=i.toNat+1 by omega,gg,qj (by rw [fq,a.h];omega)];simp only [gj]
theorem ybn {k:iu} {n:Nat} {L L2 r:List T} (a:Ar n) {i:Int} (v:Int) (h:0<=i/\i<(n:Int)) (hL:L=a.l.map (fh k)++r:=by first|rfl | (simp (disch:=decide) only [gj,gt,fx,gq,gg,fq,gh,je,Ar.len,sgD,sgD1,kv,gp,iz,fw,i5];done)) (h2:L2=(a.set i v).l.map (fh k)++r:=by first|rfl | (simp (disch:=decide) only [gj,gt,fx,gq,gg,fq,gh,je,Ar.len,sgD,sgD1,kv,gp,iz,fw,i5];done)):spl L i.toNat [fh k v]=L2:=by
  have:=setAt (off:=0) (p:=[]) (L:=L) (L2:=L2) a v h hL rfl h2
  rwa [i5] at this
/-! bits of integers -/
def iAnd (k:iu) (a b:Int):Int:=k.wrap (i8 k.bits a &&& i8 k.bits b).toNat
def iOr (k:iu) (a b:Int):Int:=k.wrap (i8 k.bits a ||| i8 k.bits b).toNat
def iXor (k:iu) (a b:Int):Int:=k.wrap (i8 k.bits a ^^^ i8 k.bits b).toNat
def zhr (k:iu) (a b:Int):Int:=k.wrap (i8 k.bits a &&& ~~~ i8 k.bits b).toNat
def iShl (k:iu) (a b:Int):Int:=k.wrap (a*2 ^ (min b.toNat k.bits))
def iShr (k:iu) (a b:Int):Int:=a.fdiv (2 ^ (min b.toNat k.bits))
theorem yiz {k:iu} {a b:Int}:zbq .and k k a b=some (.int k (iAnd k a b)):=yob
theorem yn6 {k:iu} {a b:Int}:zbq .or k k a b=some (.int k (iOr k a b)):=ib_or
theorem yiy {k:iu} {a b:Int}:zbq .xor k k a b=some (.int k (iXor k a b)):=yn8
theorem ydp {k:iu} {a b:Int}:zbq .andNot k k a b=some (.int k (zhr k a b)):=by simp [zbq,zhr]
theorem yn5 {k k':iu} {a b:Int} (h:0<=b):zbq .shl k k' a b=some (.int k (iShl k a b)):=yoa h
theorem zxj {k k':iu} {a b:Int} (h:0<=b):zbq .shr k k' a b=some (.int k (iShr k a b)):=yn9 h
theorem zls {t:T} {l:List T} {v:Value} {r:List Value} (h:yfy t=some v) (k:zgk l=some r):zgk (t :: l)=some (v :: r):=by
  unfold zgk;rw [h,k]
theorem zp8 {c:CK} {v:Value} {r:List CK} {vs:List Value} (h:ckV c v=true) (k:zek r vs=true):zek (c :: r) (v :: vs)=true:=by
  rw [zek,h,k];rfl
theorem z8i (k:iu) (n:Int):ckV (.int k) (.int k n)=true:=by simp [ckV]
theorem z41 {k:iu} {n:Nat} (a:Ar n) {r:List CK} {vs:List Value} (h:zek r vs=true):zek (gb n (.int k)++r) (a.l.map (jh k)++vs)=true:=by
  have:=z2m (k:=k) (l:=a.l) h
  rwa [a.h] at this
theorem z7x {k:iu} {n:Nat} (a:Ar n):zek (gb n (.int k)) (a.l.map (jh k))=true:=by
  have:=z41 (k:=k) a (r:=[]) (vs:=[]) rfl
  rwa [gt,gt] at this
theorem z44 {k:iu} {n:Nat} (a b:Ar n) (x y:List Value):eqVs (a.l.map (jh k)++x) (b.l.map (jh k)++y)=(decide (a=b) && eqVs x y):=by
  rw [zl1 (by rw [fq,fq,a.h,b.h]),zz2]
theorem yb6 {α:Type} {f:α->T} (z:α):∀ n:Nat,rep n (f z).cells=vecC f (gb n z)
  |0=>rfl
  |n+1=>by
    have:=yb6 (f:=f) z n;unfold rep vecC at this ⊢;rw [jc,ii,this,jc,i4,jb]
theorem ydz {k:iu} {m:Nat} (l:List Int):(T.agg (l.map (fh k))).ids m=true:=zgl l
theorem zix:∀ (a b:List T),rc (a++b)=(rc a && rc b)
  |[],b=>by simp [rc]
  |t :: a,b=>by rw [gq,rc,rc,zix a b,Bool.and_assoc]
theorem yfa (l:List T):l++[]=l:=gt l
theorem z3j (a b c:List T):a++b++c=a++(b++c):=gj a b c
theorem zuf (a b:List T):(a++b).length=a.length+b.length:=fx
theorem z0d (a b:List T) (p:T->Bool):(a++b).all p=(a.all p && b.all p):=List.all_append
theorem z0m (n:Nat):([]:List T).take n=[]:=List.take_nil
theorem z2u (n:Nat):([]:List T).drop n=[]:=List.drop_nil
noncomputable def LL:List Nat:=[3,4,5,6,7,8,9,10,11,12,13,14,15,16,17,18,19,20,21,22,23,24,25,26,27,28,29,30,31,32,33,34,35,36,37,38,39,40,41,42,43,44,45,46,47,48,49,50,51,52,53,54,55,56,57,58,59,60,61,62,63,64,65,66,67,68,69,70,71,72,73,74,75,76,77,78,79,80,81,82,83,84,85,86,87,88,89,90,91,92,93,94,95,96,97]
def GG:List Nat:=[]
noncomputable def EE (ax:Axs):Env:=zhs Try.prog LL ax
theorem zfg (ax:Axs):zeb Try.prog (EE ax):=yeg _ _ _
theorem z7t:zng Try.prog GG LL=true:=by kernel_rfl
theorem ygn:Try.prog.follows .mixedOrders=true:=by kernel_rfl
noncomputable def aggO:Option (List T)->Option T
  |some l=>some (.agg l)
  |none=>none
theorem fn3 (ax:Axs):(EE ax).fn.at 3=some Try.f3:=by kernel_rfl
theorem fn8 (ax:Axs):(EE ax).fn.at 8=some Try.f8:=by kernel_rfl
theorem fn9 (ax:Axs):(EE ax).fn.at 9=some Try.f9:=by kernel_rfl
theorem fn10 (ax:Axs):(EE ax).fn.at 10=some Try.f10:=by kernel_rfl
theorem fn11 (ax:Axs):(EE ax).fn.at 11=some Try.f11:=by kernel_rfl
theorem fn12 (ax:Axs):(EE ax).fn.at 12=some Try.f12:=by kernel_rfl
theorem fn13 (ax:Axs):(EE ax).fn.at 13=some Try.f13:=by kernel_rfl
theorem fn14 (ax:Axs):(EE ax).fn.at 14=some Try.f14:=by kernel_rfl
theorem fn15 (ax:Axs):(EE ax).fn.at 15=some Try.f15:=by kernel_rfl
theorem fn16 (ax:Axs):(EE ax).fn.at 16=some Try.f16:=by kernel_rfl
theorem fn18 (ax:Axs):(EE ax).fn.at 18=some Try.f18:=by kernel_rfl
theorem fn19 (ax:Axs):(EE ax).fn.at 19=some Try.f19:=by kernel_rfl
theorem fn22 (ax:Axs):(EE ax).fn.at 22=some Try.f22:=by kernel_rfl
theorem fn23 (ax:Axs):(EE ax).fn.at 23=some Try.f23:=by kernel_rfl
theorem fn24 (ax:Axs):(EE ax).fn.at 24=some Try.f24:=by kernel_rfl
theorem fn26 (ax:Axs):(EE ax).fn.at 26=some Try.f26:=by kernel_rfl
theorem fn27 (ax:Axs):(EE ax).fn.at 27=some Try.f27:=by kernel_rfl
theorem fn28 (ax:Axs):(EE ax).fn.at 28=some Try.f28:=by kernel_rfl
theorem fn29 (ax:Axs):(EE ax).fn.at 29=some Try.f29:=by kernel_rfl
theorem fn30 (ax:Axs):(EE ax).fn.at 30=some Try.f30:=by kernel_rfl
theorem fn31 (ax:Axs):(EE ax).fn.at 31=some Try.f31:=by kernel_rfl
theorem fn32 (ax:Axs):(EE ax).fn.at 32=some Try.f32:=by kernel_rfl
theorem fn33 (ax:Axs):(EE ax).fn.at 33=some Try.f33:=by kernel_rfl
theorem fn34 (ax:Axs):(EE ax).fn.at 34=some Try.f34:=by kernel_rfl
theorem fn35 (ax:Axs):(EE ax).fn.at 35=some Try.f35:=by kernel_rfl
theorem fn36 (ax:Axs):(EE ax).fn.at 36=some Try.f36:=by kernel_rfl
theorem fn37 (ax:Axs):(EE ax).fn.at 37=some Try.f37:=by kernel_rfl
theorem fn38 (ax:Axs):(EE ax).fn.at 38=some Try.f38:=by kernel_rfl
theorem fn39 (ax:Axs):(EE ax).fn.at 39=some Try.f39:=by kernel_rfl
theorem fn40 (ax:Axs):(EE ax).fn.at 40=some Try.f40:=by kernel_rfl
theorem fn41 (ax:Axs):(EE ax).fn.at 41=some Try.f41:=by kernel_rfl
theorem fn42 (ax:Axs):(EE ax).fn.at 42=some Try.f42:=by kernel_rfl
theorem fn43 (ax:Axs):(EE ax).fn.at 43=some Try.f43:=by kernel_rfl
theorem fn44 (ax:Axs):(EE ax).fn.at 44=some Try.f44:=by kernel_rfl
theorem fn45 (ax:Axs):(EE ax).fn.at 45=some Try.f45:=by kernel_rfl
theorem fn46 (ax:Axs):(EE ax).fn.at 46=some Try.f46:=by kernel_rfl
theorem fn50 (ax:Axs):(EE ax).fn.at 50=some Try.f50:=by kernel_rfl
theorem fn51 (ax:Axs):(EE ax).fn.at 51=some Try.f51:=by kernel_rfl
theorem fn52 (ax:Axs):(EE ax).fn.at 52=some Try.f52:=by kernel_rfl
theorem fn53 (ax:Axs):(EE ax).fn.at 53=some Try.f53:=by kernel_rfl
theorem fn54 (ax:Axs):(EE ax).fn.at 54=some Try.f54:=by kernel_rfl
theorem fn55 (ax:Axs):(EE ax).fn.at 55=some Try.f55:=by kernel_rfl
theorem fn56 (ax:Axs):(EE ax).fn.at 56=some Try.f56:=by kernel_rfl
theorem fn57 (ax:Axs):(EE ax).fn.at 57=some Try.f57:=by kernel_rfl
theorem fn58 (ax:Axs):(EE ax).fn.at 58=some Try.f58:=by kernel_rfl
theorem fn59 (ax:Axs):(EE ax).fn.at 59=some Try.f59:=by kernel_rfl
theorem fn60 (ax:Axs):(EE ax).fn.at 60=some Try.f60:=by kernel_rfl
theorem fn61 (ax:Axs):(EE ax).fn.at 61=some Try.f61:=by kernel_rfl
theorem fn62 (ax:Axs):(EE ax).fn.at 62=some Try.f62:=by kernel_rfl
theorem fn63 (ax:Axs):(EE ax).fn.at 63=some Try.f63:=by kernel_rfl
theorem fn64 (ax:Axs):(EE ax).fn.at 64=some Try.f64:=by kernel_rfl
theorem fn65 (ax:Axs):(EE ax).fn.at 65=some Try.f65:=by kernel_rfl
theorem fn67 (ax:Axs):(EE ax).fn.at 67=some Try.f67:=by kernel_rfl
theorem fn68 (ax:Axs):(EE ax).fn.at 68=some Try.f68:=by kernel_rfl
theorem fn69 (ax:Axs):(EE ax).fn.at 69=some Try.f69:=by kernel_rfl
theorem fn70 (ax:Axs):(EE ax).fn.at 70=some Try.f70:=by kernel_rfl
theorem fn72 (ax:Axs):(EE ax).fn.at 72=some Try.f72:=by kernel_rfl
theorem fn73 (ax:Axs):(EE ax).fn.at 73=some Try.f73:=by kernel_rfl
theorem fn74 (ax:Axs):(EE ax).fn.at 74=some Try.f74:=by kernel_rfl
theorem fn75 (ax:Axs):(EE ax).fn.at 75=some Try.f75:=by kernel_rfl
theorem fn76 (ax:Axs):(EE ax).fn.at 76=some Try.f76:=by kernel_rfl
theorem fn77 (ax:Axs):(EE ax).fn.at 77=some Try.f77:=by kernel_rfl
theorem fn78 (ax:Axs):(EE ax).fn.at 78=some Try.f78:=by kernel_rfl
theorem fn79 (ax:Axs):(EE ax).fn.at 79=some Try.f79:=by kernel_rfl
theorem fn80 (ax:Axs):(EE ax).fn.at 80=some Try.f80:=by kernel_rfl
theorem fn81 (ax:Axs):(EE ax).fn.at 81=some Try.f81:=by kernel_rfl
theorem fn82 (ax:Axs):(EE ax).fn.at 82=some Try.f82:=by kernel_rfl
theorem fn83 (ax:Axs):(EE ax).fn.at 83=some Try.f83:=by kernel_rfl
theorem fn84 (ax:Axs):(EE ax).fn.at 84=some Try.f84:=by kernel_rfl
theorem fn85 (ax:Axs):(EE ax).fn.at 85=some Try.f85:=by kernel_rfl
theorem fn86 (ax:Axs):(EE ax).fn.at 86=some Try.f86:=by kernel_rfl
theorem fn87 (ax:Axs):(EE ax).fn.at 87=some Try.f87:=by kernel_rfl
theorem fn88 (ax:Axs):(EE ax).fn.at 88=some Try.f88:=by kernel_rfl
theorem fn89 (ax:Axs):(EE ax).fn.at 89=some Try.f89:=by kernel_rfl
theorem fn90 (ax:Axs):(EE ax).fn.at 90=some Try.f90:=by kernel_rfl
theorem fn91 (ax:Axs):(EE ax).fn.at 91=some Try.f91:=by kernel_rfl
theorem fn92 (ax:Axs):(EE ax).fn.at 92=some Try.f92:=by kernel_rfl
theorem fn95 (ax:Axs):(EE ax).fn.at 95=some Try.f95:=by kernel_rfl
theorem fn96 (ax:Axs):(EE ax).fn.at 96=some Try.f96:=by kernel_rfl
theorem ti3 (ax:Axs):(EE ax).ti.at 3=some ⟨.int .i64,1,8,[.int .i64 0]⟩:=by kernel_rfl
theorem ti4 (ax:Axs):(EE ax).ti.at 4=some ⟨.bool,1,1,[.bool false]⟩:=by kernel_rfl
theorem ti5 (ax:Axs):(EE ax).ti.at 5=some ⟨.int .u8,1,1,[.int .u8 0]⟩:=by kernel_rfl
theorem ti9 (ax:Axs):(EE ax).ti.at 9=some ⟨.string,1,16,[.string ⟨#[]⟩]⟩:=by kernel_rfl
theorem ti22 (ax:Axs):(EE ax).ti.at 22=some ⟨.slice 93,1,24,[.slice none 0 0]⟩:=by kernel_rfl
theorem ti23 (ax:Axs):(EE ax).ti.at 23=some ⟨.slice 95,1,24,[.slice none 0 0]⟩:=by kernel_rfl
theorem ti24 (ax:Axs):(EE ax).ti.at 24=some ⟨.slice 98,1,24,[.slice none 0 0]⟩:=by kernel_rfl
theorem ykb (ax:Axs) (S:TS) (b off N:Nat):zan (EE ax) S 26 0 (.ptr b off N)=bif S.has b N then some (.ptr b (off+0) N) else none:=by kernel_rfl
theorem yka (ax:Axs) (S:TS) (b off N:Nat):zan (EE ax) S 26 1 (.ptr b off N)=bif S.has b N then some (.ptr b (off+1) N) else none:=by kernel_rfl
theorem yj9 (ax:Axs) (S:TS) (b off N:Nat):zan (EE ax) S 26 2 (.ptr b off N)=bif S.has b N then some (.ptr b (off+2) N) else none:=by kernel_rfl
noncomputable def fs26:Array Field:=match Try.prog.underlying 26 with|some (.struct fs)=>fs|_=>#[]
theorem ti26 (ax:Axs):(EE ax).ti.at 26=some ⟨.struct fs26,3,72,[.slice none 0 0,.slice none 0 0,.slice none 0 0]⟩:=by kernel_rfl
theorem ti28 (ax:Axs):(EE ax).ti.at 28=some ⟨.slice 59,1,24,[.slice none 0 0]⟩:=by kernel_rfl
theorem sr28 (ax:Axs):srcT (EE ax) 28=true:=by kernel_rfl
theorem yj8 (ax:Axs) (S:TS) (b off N:Nat):zan (EE ax) S 30 0 (.ptr b off N)=bif S.has b N then some (.ptr b (off+0) N) else none:=by kernel_rfl
theorem yjq (ax:Axs) (S:TS) (l:List T):zan (EE ax) S 30 0 (.cp l)=some (.cp (l.drop 0)):=by kernel_rfl
theorem yj7 (ax:Axs) (S:TS) (b off N:Nat):zan (EE ax) S 30 1 (.ptr b off N)=bif S.has b N then some (.ptr b (off+1) N) else none:=by kernel_rfl
theorem zqb (ax:Axs) (S:TS) (l:List T):zan (EE ax) S 30 1 (.cp l)=some (.cp (l.drop 1)):=by kernel_rfl
theorem yj6 (ax:Axs) (S:TS) (b off N:Nat):zan (EE ax) S 30 2 (.ptr b off N)=bif S.has b N then some (.ptr b (off+2) N) else none:=by kernel_rfl
theorem zux (ax:Axs) (S:TS) (l:List T):zan (EE ax) S 30 2 (.cp l)=some (.cp (l.drop 2)):=by kernel_rfl
noncomputable def fs30:Array Field:=match Try.prog.underlying 30 with|some (.struct fs)=>fs|_=>#[]
theorem bt30 (ax:Axs) (ρ:f7->T) (parts:List (Nat×f7)):zj2 (EE ax) ρ 30 parts=aggO (zb4 [.int .i64 0,.int .i64 0,.int .i64 0] (zbh (zfk (EE ax) fs30) ρ parts)):=by kernel_rfl
theorem ti30 (ax:Axs):(EE ax).ti.at 30=some ⟨.struct fs30,3,24,[.int .i64 0,.int .i64 0,.int .i64 0]⟩:=by kernel_rfl
theorem yir (ax:Axs):zfk (EE ax) fs30 0=some (0,1):=by kernel_rfl
theorem yiq (ax:Axs):zfk (EE ax) fs30 1=some (1,1):=by kernel_rfl
theorem yip (ax:Axs):zfk (EE ax) fs30 2=some (2,1):=by kernel_rfl
theorem ti40 (ax:Axs):(EE ax).ti.at 40=some ⟨.slice 30,1,24,[.slice none 0 0]⟩:=by kernel_rfl
theorem sr40 (ax:Axs):srcT (EE ax) 40=true:=by kernel_rfl
theorem tz43 (ax:Axs):(EE ax).ti.at 43=some ⟨.array 10 3,10,80,zVs 10 .i64⟩:=by kernel_rfl
theorem aq43 (ax:Axs) (a b:Ar 10):(∀ (S:TS) (x y:f7),tBin Try.prog (EE ax) S 43 .eql x y (.agg (a.l.map (fh .i64))) (.agg (b.l.map (fh .i64)))=some (.bool (decide (a=b))))/\(∀ (S:TS) (x y:f7),tBin Try.prog (EE ax) S 43 .neq x y (.agg (a.l.map (fh .i64))) (.agg (b.l.map (fh .i64)))=some (.bool (!(decide (a=b))))):=⟨fun _ _ _=>(ya3 (e:=3) (by kernel_rfl) (by kernel_rfl) (by kernel_rfl) (by kernel_rfl) a b).1,fun _ _ _=>(ya3 (e:=3) (by kernel_rfl) (by kernel_rfl) (by kernel_rfl) (by kernel_rfl) a b).2⟩
theorem bz43 (ax:Axs):∀ (ρ:f7->T),zj2 (EE ax) ρ 43 []=some (.agg ((zA 10).l.map (fh .i64))):=fun _=>rfl
theorem ti48 (ax:Axs):(EE ax).ti.at 48=some ⟨.slice 3,1,24,[.slice none 0 0]⟩:=by kernel_rfl
theorem sr48 (ax:Axs):srcT (EE ax) 48=true:=by kernel_rfl
def zS56:List Value:=[.int .i64 0,.int .i64 0,.int .i64 0,.int .i64 0,.int .i64 0,.int .i64 0,.int .i64 0,.int .i64 0,.int .i64 0,.int .i64 0,.int .i64 0,.int .i64 0,.int .i64 0,.int .i64 0,.int .i64 0,.int .i64 0,.int .i64 0,.int .i64 0,.int .i64 0,.int .i64 0]
theorem yhw:zgi zS56=some ((zA 10).l.map (fh .i64)++((zA 10).l.map (fh .i64))):=rfl
theorem z5n:zS56.length=20:=rfl
theorem yj5 (ax:Axs) (S:TS) (b off N:Nat):zan (EE ax) S 56 0 (.ptr b off N)=bif S.has b N then some (.ptr b (off+0) N) else none:=by kernel_rfl
theorem yjp (ax:Axs) (S:TS) (l:List T):zan (EE ax) S 56 0 (.cp l)=some (.cp (l.drop 0)):=by kernel_rfl
theorem yj4 (ax:Axs) (S:TS) (b off N:Nat):zan (EE ax) S 56 1 (.ptr b off N)=bif S.has b N then some (.ptr b (off+10) N) else none:=by kernel_rfl
theorem yjo (ax:Axs) (S:TS) (l:List T):zan (EE ax) S 56 1 (.cp l)=some (.cp (l.drop 10)):=by kernel_rfl
noncomputable def fs56:Array Field:=match Try.prog.underlying 56 with|some (.struct fs)=>fs|_=>#[]
theorem bt56 (ax:Axs) (ρ:f7->T) (parts:List (Nat×f7)):zj2 (EE ax) ρ 56 parts=aggO (zb4 zS56 (zbh (zfk (EE ax) fs56) ρ parts)):=by kernel_rfl
theorem ti56 (ax:Axs):(EE ax).ti.at 56=some ⟨.struct fs56,20,160,zS56⟩:=by kernel_rfl
theorem yio (ax:Axs):zfk (EE ax) fs56 0=some (0,10):=by kernel_rfl
theorem yin (ax:Axs):zfk (EE ax) fs56 1=some (10,10):=by kernel_rfl
theorem ti57 (ax:Axs):(EE ax).ti.at 57=some ⟨.slice 87,1,24,[.slice none 0 0]⟩:=by kernel_rfl
def zS59:List Value:=[.int .i64 0,.int .i64 0,.int .i64 0,.int .i64 0,.int .i64 0,.int .i64 0,.int .i64 0,.int .i64 0,.int .i64 0,.int .i64 0,.int .i64 0,.int .i64 0,.int .i64 0,.int .i64 0,.int .i64 0,.int .i64 0,.int .i64 0,.int .i64 0,.int .i64 0,.int .i64 0,.int .i64 0,.int .i64 0,.slice none 0 0]
theorem yah:zgi zS59=some (fh .i64 0 :: ((zA 10).l.map (fh .i64)++((zA 10).l.map (fh .i64)++[fh .i64 0,T.nils]))):=rfl
theorem zyl:zS59.length=23:=rfl
theorem yj3 (ax:Axs) (S:TS) (b off N:Nat):zan (EE ax) S 59 0 (.ptr b off N)=bif S.has b N then some (.ptr b (off+0) N) else none:=by kernel_rfl
theorem yjn (ax:Axs) (S:TS) (l:List T):zan (EE ax) S 59 0 (.cp l)=some (.cp (l.drop 0)):=by kernel_rfl
theorem yj2 (ax:Axs) (S:TS) (b off N:Nat):zan (EE ax) S 59 1 (.ptr b off N)=bif S.has b N then some (.ptr b (off+1) N) else none:=by kernel_rfl
theorem yjm (ax:Axs) (S:TS) (l:List T):zan (EE ax) S 59 1 (.cp l)=some (.cp (l.drop 1)):=by kernel_rfl
theorem yj1 (ax:Axs) (S:TS) (b off N:Nat):zan (EE ax) S 59 2 (.ptr b off N)=bif S.has b N then some (.ptr b (off+21) N) else none:=by kernel_rfl
theorem yj0 (ax:Axs) (S:TS) (b off N:Nat):zan (EE ax) S 59 3 (.ptr b off N)=bif S.has b N then some (.ptr b (off+22) N) else none:=by kernel_rfl
theorem yjl (ax:Axs) (S:TS) (l:List T):zan (EE ax) S 59 3 (.cp l)=some (.cp (l.drop 22)):=by kernel_rfl
noncomputable def fs59:Array Field:=match Try.prog.underlying 59 with|some (.struct fs)=>fs|_=>#[]
theorem bt59 (ax:Axs) (ρ:f7->T) (parts:List (Nat×f7)):zj2 (EE ax) ρ 59 parts=aggO (zb4 zS59 (zbh (zfk (EE ax) fs59) ρ parts)):=by kernel_rfl
theorem ti59 (ax:Axs):(EE ax).ti.at 59=some ⟨.struct fs59,23,200,zS59⟩:=by kernel_rfl
theorem ynr (ax:Axs):zfk (EE ax) fs59 0=some (0,1):=by kernel_rfl
theorem ynq (ax:Axs):zfk (EE ax) fs59 1=some (1,20):=by kernel_rfl
theorem yim (ax:Axs):zfk (EE ax) fs59 2=some (21,1):=by kernel_rfl
theorem ti63 (ax:Axs):(EE ax).ti.at 63=some ⟨.slice 48,1,24,[.slice none 0 0]⟩:=by kernel_rfl
noncomputable def fd74:TypeDesc:=match Try.prog.underlying 74 with|some d=>d|none=>.bool
theorem ti74 (ax:Axs):(EE ax).ti.at 74=some ⟨fd74,1,8,[.nilFunc]⟩:=by kernel_rfl
theorem ag74:aggT fd74=false:=by kernel_rfl
theorem ti75 (ax:Axs):(EE ax).ti.at 75=some ⟨.slice 56,1,24,[.slice none 0 0]⟩:=by kernel_rfl
theorem sr75 (ax:Axs):srcT (EE ax) 75=true:=by kernel_rfl
def zS84:List Value:=[.int .i64 0,.int .i64 0,.int .i64 0,.int .i64 0,.int .i64 0,.int .i64 0,.int .i64 0,.int .i64 0,.int .i64 0,.int .i64 0,.int .i64 0,.int .i64 0,.int .i64 0,.int .i64 0,.int .i64 0,.int .i64 0,.int .i64 0,.int .i64 0,.int .i64 0,.int .i64 0]
theorem yhv:zgi zS84=some ((zA 10).l.map (fh .i64)++((zA 10).l.map (fh .i64))):=rfl
theorem z5m:zS84.length=20:=rfl
theorem yjz (ax:Axs) (S:TS) (b off N:Nat):zan (EE ax) S 84 0 (.ptr b off N)=bif S.has b N then some (.ptr b (off+0) N) else none:=by kernel_rfl
theorem yjy (ax:Axs) (S:TS) (b off N:Nat):zan (EE ax) S 84 1 (.ptr b off N)=bif S.has b N then some (.ptr b (off+10) N) else none:=by kernel_rfl
noncomputable def fs84:Array Field:=match Try.prog.underlying 84 with|some (.struct fs)=>fs|_=>#[]
theorem bt84 (ax:Axs) (ρ:f7->T) (parts:List (Nat×f7)):zj2 (EE ax) ρ 84 parts=aggO (zb4 zS84 (zbh (zfk (EE ax) fs84) ρ parts)):=by kernel_rfl
theorem ti84 (ax:Axs):(EE ax).ti.at 84=some ⟨.struct fs84,20,160,zS84⟩:=by kernel_rfl
theorem yil (ax:Axs):zfk (EE ax) fs84 0=some (0,10):=by kernel_rfl
theorem yik (ax:Axs):zfk (EE ax) fs84 1=some (10,10):=by kernel_rfl
def zS86:List Value:=[.int .i64 0,.int .i64 0,.int .i64 0,.int .i64 0,.int .i64 0,.int .i64 0,.int .i64 0,.int .i64 0,.int .i64 0,.int .i64 0,.int .i64 0,.int .i64 0,.int .i64 0,.int .i64 0,.int .i64 0,.int .i64 0,.int .i64 0,.int .i64 0,.int .i64 0,.int .i64 0,.int .i64 0]
theorem yhu:zgi zS86=some (fh .i64 0 :: ((zA 10).l.map (fh .i64)++((zA 10).l.map (fh .i64)))):=rfl
theorem z5l:zS86.length=21:=rfl
theorem yjx (ax:Axs) (S:TS) (b off N:Nat):zan (EE ax) S 86 0 (.ptr b off N)=bif S.has b N then some (.ptr b (off+0) N) else none:=by kernel_rfl
theorem yjw (ax:Axs) (S:TS) (b off N:Nat):zan (EE ax) S 86 1 (.ptr b off N)=bif S.has b N then some (.ptr b (off+1) N) else none:=by kernel_rfl
noncomputable def fs86:Array Field:=match Try.prog.underlying 86 with|some (.struct fs)=>fs|_=>#[]
theorem bt86 (ax:Axs) (ρ:f7->T) (parts:List (Nat×f7)):zj2 (EE ax) ρ 86 parts=aggO (zb4 zS86 (zbh (zfk (EE ax) fs86) ρ parts)):=by kernel_rfl
theorem ti86 (ax:Axs):(EE ax).ti.at 86=some ⟨.struct fs86,21,168,zS86⟩:=by kernel_rfl
theorem ynp (ax:Axs):zfk (EE ax) fs86 0=some (0,1):=by kernel_rfl
theorem yno (ax:Axs):zfk (EE ax) fs86 1=some (1,20):=by kernel_rfl
theorem ti87 (ax:Axs):(EE ax).ti.at 87=some ⟨.slice 86,1,24,[.slice none 0 0]⟩:=by kernel_rfl
theorem ti88 (ax:Axs):(EE ax).ti.at 88=some ⟨.slice 9,1,24,[.slice none 0 0]⟩:=by kernel_rfl
theorem sr88 (ax:Axs):srcT (EE ax) 88=true:=by kernel_rfl
theorem yjk (ax:Axs) (S:TS) (l:List T):zan (EE ax) S 93 0 (.cp l)=some (.cp (l.drop 0)):=by kernel_rfl
theorem yjv (ax:Axs) (S:TS) (b off N:Nat):zan (EE ax) S 93 2 (.ptr b off N)=bif S.has b N then some (.ptr b (off+2) N) else none:=by kernel_rfl
theorem yju (ax:Axs) (S:TS) (b off N:Nat):zan (EE ax) S 93 3 (.ptr b off N)=bif S.has b N then some (.ptr b (off+3) N) else none:=by kernel_rfl
noncomputable def fs93:Array Field:=match Try.prog.underlying 93 with|some (.struct fs)=>fs|_=>#[]
theorem ti93 (ax:Axs):(EE ax).ti.at 93=some ⟨.struct fs93,4,40,[.string ⟨#[]⟩,.bool false,.int .i64 0,.int .i64 0]⟩:=by kernel_rfl
theorem yjt (ax:Axs) (S:TS) (b off N:Nat):zan (EE ax) S 95 0 (.ptr b off N)=bif S.has b N then some (.ptr b (off+0) N) else none:=by kernel_rfl
theorem yjs (ax:Axs) (S:TS) (b off N:Nat):zan (EE ax) S 95 1 (.ptr b off N)=bif S.has b N then some (.ptr b (off+1) N) else none:=by kernel_rfl
theorem yjr (ax:Axs) (S:TS) (b off N:Nat):zan (EE ax) S 95 2 (.ptr b off N)=bif S.has b N then some (.ptr b (off+2) N) else none:=by kernel_rfl
noncomputable def fs95:Array Field:=match Try.prog.underlying 95 with|some (.struct fs)=>fs|_=>#[]
theorem ti95 (ax:Axs):(EE ax).ti.at 95=some ⟨.struct fs95,3,24,[.int .i64 0,.int .i64 0,.int .i64 0]⟩:=by kernel_rfl
theorem yjj (ax:Axs) (S:TS) (l:List T):zan (EE ax) S 98 0 (.cp l)=some (.cp (l.drop 0)):=by kernel_rfl
theorem yji (ax:Axs) (S:TS) (l:List T):zan (EE ax) S 98 1 (.cp l)=some (.cp (l.drop 1)):=by kernel_rfl
noncomputable def fs98:Array Field:=match Try.prog.underlying 98 with|some (.struct fs)=>fs|_=>#[]
theorem ti98 (ax:Axs):(EE ax).ti.at 98=some ⟨.struct fs98,2,24,[.string ⟨#[]⟩,.int .i64 0]⟩:=by kernel_rfl
theorem ym7 (ax:Axs):(EE ax).ti.at 101=some ⟨.int .u64,1,8,[.int .u64 0]⟩:=by kernel_rfl
theorem ym6 (ax:Axs):(EE ax).ti.at 115=some ⟨.int .u64,1,8,[.int .u64 0]⟩:=by kernel_rfl
theorem ym5 (ax:Axs):(EE ax).ti.at 118=some ⟨.slice 59,1,24,[.slice none 0 0]⟩:=by kernel_rfl
theorem el28 (ax:Axs):zdt (EE ax) 28=some ⟨.struct fs59,23,200,zS59⟩:=by kernel_rfl
theorem el40 (ax:Axs):zdt (EE ax) 40=some ⟨.struct fs30,3,24,[.int .i64 0,.int .i64 0,.int .i64 0]⟩:=by kernel_rfl
theorem el48 (ax:Axs):zdt (EE ax) 48=some ⟨.int .i64,1,8,[.int .i64 0]⟩:=by kernel_rfl
theorem el57 (ax:Axs):zdt (EE ax) 57=some ⟨.slice 86,1,24,[.slice none 0 0]⟩:=by kernel_rfl
theorem el63 (ax:Axs):zdt (EE ax) 63=some ⟨.slice 3,1,24,[.slice none 0 0]⟩:=by kernel_rfl
theorem el75 (ax:Axs):zdt (EE ax) 75=some ⟨.struct fs56,20,160,zS56⟩:=by kernel_rfl
theorem el87 (ax:Axs):zdt (EE ax) 87=some ⟨.struct fs86,21,168,zS86⟩:=by kernel_rfl
theorem el88 (ax:Axs):zdt (EE ax) 88=some ⟨.string,1,16,[.string ⟨#[]⟩]⟩:=by kernel_rfl
instance:Inhabited ByteArray:=⟨⟨#[]⟩⟩
theorem zb9 {α:Type} {n:Nat} {f:α->T} (h:∀ x,(f x).ids n=true):∀ (l:List α),kb n (l.map f)=true
  |[]=>rfl
  |x :: l=>by simp only [i4,kb,h,zb9 h l,gc]
theorem zka {α:Type} {n:Nat} {f:α->T} (h:∀ x,kb n (f x).cells=true):∀ (l:List α),kb n (vecC f l)=true
  |[]=>rfl
  |x :: l=>by
    have:=zka h l;unfold vecC at this ⊢;rw [i4,jb,zax,h,this];rfl
def ints (l:List Int):T:=.lst 1 (l.map (fh .i64))
theorem zp1 {n:Nat} (l:List Int):(ints l).ids n=true:=zb9 (fun _=>rfl) l
theorem z2a {n:Nat} (l:List Int):kb n (l.map (fh .i64))=true:=zb9 (fun _=>rfl) l
def z4u (l:List (List Int)):T:=.lst 1 (l.map ints)
theorem z2c {n:Nat} (l:List (List Int)):(z4u l).ids n=true:=zb9 (fun x=>zp1 x) l
theorem zxt {n:Nat} (l:List (List Int)):kb n (l.map ints)=true:=zb9 (fun x=>zp1 x) l
theorem z3a (x:List Int):(ints x).cells=[ints x]:=f6 rfl rfl
theorem z1p (x:List Int):na (ints x)=true:=f6 rfl rfl
def strs (l:List ByteArray):T:=.lst 1 (l.map T.str)
theorem z7f {n:Nat} (l:List ByteArray):(strs l).ids n=true:=zb9 (fun _=>rfl) l
theorem z17 {n:Nat} (l:List ByteArray):kb n (l.map T.str)=true:=zb9 (fun _=>rfl) l
structure Merg where
  kind:Int
  i:Int
  k:Int
deriving Inhabited,DecidableEq
def zib (x:Merg):T:=.agg ([fh .i64 x.kind,fh .i64 x.i,fh .i64 x.k])
theorem z9u {n:Nat} (x:Merg):kb n (zib x).cells=true:=by simp only [zib,jd,qr,kb,zax,zgl,gc]
theorem zp4 {n:Nat} (x:Merg):(zib x).ids n=true:=by simp only [zib,qr,kb,zax,zgl,gc]
def zo9 (x:Merg):List Value:=[jh .i64 x.kind,jh .i64 x.i,jh .i64 x.k]
def z31:List CK:=[CK.int .i64,CK.int .i64,CK.int .i64]
theorem zy7 (x:Merg):zgk ([fh .i64 x.kind,fh .i64 x.i,fh .i64 x.k])=some (zo9 x):=(zls rfl (zls rfl (zls rfl rfl)))
theorem zzy (x:Merg):zek z31 (zo9 x)=true:=(zp8 (z8i _ _) (zp8 (z8i _ _) (zp8 (z8i _ _) rfl)))
theorem yhs (a b:Merg):a=b↔a.kind=b.kind/\a.i=b.i/\a.k=b.k:=by cases a;cases b;simp
theorem yef (a b:Merg):eqVs (zo9 a) (zo9 b)=decide (a=b):=by
  rw [ku];simp [zo9,z44,zz2,eqVs,zni,and_assoc,yhs]
structure Pat where
  mask:Ar 10
  bits:Ar 10
deriving Inhabited,DecidableEq
def ePat (x:Pat):T:=.agg (x.mask.l.map (fh .i64)++(x.bits.l.map (fh .i64)))
theorem ydx {n:Nat} (x:Pat):kb n (ePat x).cells=true:=by simp only [ePat,jd,qr,kb,zax,zgl,gc]
theorem zsp {n:Nat} (x:Pat):(ePat x).ids n=true:=by simp only [ePat,qr,kb,zax,zgl,gc]
theorem za1 (x:Pat):(ePat x).cells.length=20:=by simp only [ePat,jd,gh,je,zuf,fq,Ar.len]
theorem zn0 (x:Pat):(ePat x).cells.all na=true:=by simp only [ePat,jd,jn,List.all_nil,z0d,zq6,zsl,zps,zsj,zsk,gc]
theorem z6h (n:Nat):rep n ((zA 10).l.map (fh .i64)++((zA 10).l.map (fh .i64)))=vecC ePat (gb n (⟨zA 10,zA 10⟩:Pat)):=yb6 (f:=ePat) (⟨zA 10,zA 10⟩:Pat) n
def zs0 (x:Pat):List Value:=x.mask.l.map (jh .i64)++(x.bits.l.map (jh .i64))
def ybi:List CK:=gb 10 (CK.int .i64)++(gb 10 (CK.int .i64))
theorem z51 (x:Pat):zgk (x.mask.l.map (fh .i64)++(x.bits.l.map (fh .i64)))=some (zs0 x):=(zlt (zi7 _) (zi7 _))
theorem z7y (x:Pat):zek ybi (zs0 x)=true:=(z41 _ (z7x _))
theorem yfj (a b:Pat):a=b↔a.mask=b.mask/\a.bits=b.bits:=by cases a;cases b;simp
theorem ykd (a b:Pat):eqVs (zs0 a) (zs0 b)=decide (a=b):=by
  rw [ku];simp [zs0,z44,zz2,eqVs,zni,and_assoc,yfj]
structure Alt where
  link:Int
  mod:Pat
deriving Inhabited,DecidableEq
def eAlt (x:Alt):T:=.agg (fh .i64 x.link :: (x.mod.mask.l.map (fh .i64)++(x.mod.bits.l.map (fh .i64))))
theorem ydy {n:Nat} (x:Alt):kb n (eAlt x).cells=true:=by simp only [eAlt,jd,qr,kb,zax,zgl,gc]
theorem zsq {n:Nat} (x:Alt):(eAlt x).ids n=true:=by simp only [eAlt,qr,kb,zax,zgl,gc]
theorem zd0 (x:Alt):(eAlt x).cells.length=21:=by simp only [eAlt,jd,gh,je,zuf,fq,Ar.len]
def zs1 (x:Alt):List Value:=jh .i64 x.link :: (x.mod.mask.l.map (jh .i64)++(x.mod.bits.l.map (jh .i64)))
def ybj:List CK:=CK.int .i64 :: (gb 10 (CK.int .i64)++(gb 10 (CK.int .i64)))
theorem z52 (x:Alt):zgk (fh .i64 x.link :: (x.mod.mask.l.map (fh .i64)++(x.mod.bits.l.map (fh .i64))))=some (zs1 x):=(zls rfl (zlt (zi7 _) (zi7 _)))
theorem z7z (x:Alt):zek ybj (zs1 x)=true:=(zp8 (z8i _ _) (z41 _ (z7x _)))
theorem ymz (a b:Alt):a=b↔a.link=b.link/\a.mod=b.mod:=by cases a;cases b;simp
theorem yke (a b:Alt):eqVs (zs1 a) (zs1 b)=decide (a=b):=by
  rw [ku];simp [zs1,z44,zz2,eqVs,zni,and_assoc,yfj,ymz]
def lAlt (l:List Alt):T:=.lst 21 (l.map eAlt)
theorem zso {n:Nat} (l:List Alt):(lAlt l).ids n=true:=zb9 (fun x=>zsq x) l
theorem z19 {n:Nat} (l:List Alt):kb n (l.map eAlt)=true:=zb9 (fun x=>zsq x) l
theorem z16 {n:Nat} (l:List Alt):kb n (vecC eAlt l)=true:=zka (fun x=>ydy x) l
def za3 (l:List (List Alt)):T:=.lst 1 (l.map lAlt)
theorem zp0 {n:Nat} (l:List (List Alt)):(za3 l).ids n=true:=zb9 (fun x=>zso x) l
theorem zxu {n:Nat} (l:List (List Alt)):kb n (l.map lAlt)=true:=zb9 (fun x=>zso x) l
theorem z29 (x:List Alt):(lAlt x).cells=[lAlt x]:=f6 rfl rfl
theorem z1o (x:List Alt):na (lAlt x)=true:=f6 rfl rfl
structure Rule where
  prio:Int
  mat:Pat
  step:Int
  outs:List (List Alt)
deriving Inhabited,DecidableEq
def zaj (x:Rule):T:=.agg (fh .i64 x.prio :: (x.mat.mask.l.map (fh .i64)++(x.mat.bits.l.map (fh .i64)++[fh .i64 x.step,za3 x.outs])))
theorem z9s {n:Nat} (x:Rule):kb n (zaj x).cells=true:=by simp only [zaj,jd,qr,kb,zax,zgl,zp0,gc]
theorem zp2 {n:Nat} (x:Rule):(zaj x).ids n=true:=by simp only [zaj,qr,kb,zax,zgl,zp0,gc]
theorem zau (x:Rule):(zaj x).cells.length=23:=by simp only [zaj,jd,gh,je,zuf,fq,Ar.len]
theorem zio (x:Rule):(zaj x).cells.all na=true:=by simp only [zaj,jd,jn,List.all_nil,z0d,zq6,zsl,zps,zsj,zsk,gc,za3.eq_1]
structure Node where
  name:ByteArray
  box:Bool
  rules:Int
  entries:Int
deriving Inhabited,DecidableEq
def zqe (x:Node):T:=.agg ([T.str x.name,T.bool x.box,fh .i64 x.rules,fh .i64 x.entries])
theorem z9t {n:Nat} (x:Node):kb n (zqe x).cells=true:=by simp only [zqe,jd,qr,kb,zax,zgl,gc]
theorem zp3 {n:Nat} (x:Node):(zqe x).ids n=true:=by simp only [zqe,qr,kb,zax,zgl,gc]
structure Link where
  frm:Int
  to:Int
  cap:Int
deriving Inhabited,DecidableEq
def zqf (x:Link):T:=.agg ([fh .i64 x.frm,fh .i64 x.to,fh .i64 x.cap])
theorem z9v {n:Nat} (x:Link):kb n (zqf x).cells=true:=by simp only [zqf,jd,qr,kb,zax,zgl,gc]
theorem zp5 {n:Nat} (x:Link):(zqf x).ids n=true:=by simp only [zqf,qr,kb,zax,zgl,gc]
structure Edge where
  name:ByteArray
  node:Int
deriving Inhabited,DecidableEq
def zqg (x:Edge):T:=.agg ([T.str x.name,fh .i64 x.node])
theorem z9w {n:Nat} (x:Edge):kb n (zqg x).cells=true:=by simp only [zqg,jd,qr,kb,zax,zgl,gc]
theorem zp6 {n:Nat} (x:Edge):(zqg x).ids n=true:=by simp only [zqg,qr,kb,zax,zgl,gc]
def zgd (l:List Node):T:=.lst 4 (l.map zqe)
theorem zul {n:Nat} (l:List Node):(zgd l).ids n=true:=zb9 (fun x=>zp3 x) l
theorem zxq {n:Nat} (l:List Node):kb n (l.map zqe)=true:=zb9 (fun x=>zp3 x) l
theorem zxl {n:Nat} (l:List Node):kb n (vecC zqe l)=true:=zka (fun x=>z9t x) l
def zge (l:List Link):T:=.lst 3 (l.map zqf)
theorem zum {n:Nat} (l:List Link):(zge l).ids n=true:=zb9 (fun x=>zp5 x) l
theorem zxs {n:Nat} (l:List Link):kb n (l.map zqf)=true:=zb9 (fun x=>zp5 x) l
theorem zxn {n:Nat} (l:List Link):kb n (vecC zqf l)=true:=zka (fun x=>z9v x) l
def zgf (l:List Edge):T:=.lst 2 (l.map zqg)
theorem zun {n:Nat} (l:List Edge):(zgf l).ids n=true:=zb9 (fun x=>zp6 x) l
theorem zxv {n:Nat} (l:List Edge):kb n (l.map zqg)=true:=zb9 (fun x=>zp6 x) l
theorem zxo {n:Nat} (l:List Edge):kb n (vecC zqg l)=true:=zka (fun x=>z9w x) l
structure Net where
  nodes:List Node
  links:List Link
  edges:List Edge
deriving Inhabited,DecidableEq
def eNet (x:Net):T:=.agg ([zgd x.nodes,zge x.links,zgf x.edges])
theorem z7i {n:Nat} (x:Net):(eNet x).ids n=true:=by simp only [eNet,qr,kb,zax,zgl,zul,zum,zun,gc]
def zae (l:List Rule):T:=.lst 23 (l.map zaj)
theorem zuk {n:Nat} (l:List Rule):(zae l).ids n=true:=zb9 (fun x=>zp2 x) l
theorem zxp {n:Nat} (l:List Rule):kb n (l.map zaj)=true:=zb9 (fun x=>zp2 x) l
theorem zxk {n:Nat} (l:List Rule):kb n (vecC zaj l)=true:=zka (fun x=>z9s x) l
def zof (l:List Merg):T:=.lst 3 (l.map zib)
theorem z2b {n:Nat} (l:List Merg):(zof l).ids n=true:=zb9 (fun x=>zp4 x) l
theorem zxr {n:Nat} (l:List Merg):kb n (l.map zib)=true:=zb9 (fun x=>zp4 x) l
theorem zxm {n:Nat} (l:List Merg):kb n (vecC zib l)=true:=zka (fun x=>z9u x) l
def lPat (l:List Pat):T:=.lst 20 (l.map ePat)
theorem z7h {n:Nat} (l:List Pat):(lPat l).ids n=true:=zb9 (fun x=>zsp x) l
theorem z18 {n:Nat} (l:List Pat):kb n (l.map ePat)=true:=zb9 (fun x=>zsp x) l
theorem z15 {n:Nat} (l:List Pat):kb n (vecC ePat l)=true:=zka (fun x=>ydx x) l
theorem aq30 (ax:Axs) (a b:Merg):(∀ (S:TS) (x y:f7),tBin Try.prog (EE ax) S 30 .eql x y (.agg ([fh .i64 a.kind,fh .i64 a.i,fh .i64 a.k])) (.agg ([fh .i64 b.kind,fh .i64 b.i,fh .i64 b.k]))=some (.bool (decide (a=b))))/\(∀ (S:TS) (x y:f7),tBin Try.prog (EE ax) S 30 .neq x y (.agg ([fh .i64 a.kind,fh .i64 a.i,fh .i64 a.k])) (.agg ([fh .i64 b.kind,fh .i64 b.i,fh .i64 b.k]))=some (.bool (!(decide (a=b))))):=⟨fun _ _ _=>(zqq (sh:=z31) (by kernel_rfl) (by kernel_rfl) (zy7 a) (zy7 b) (zzy a) (zzy b) (yef a b)).1,fun _ _ _=>(zqq (sh:=z31) (by kernel_rfl) (by kernel_rfl) (zy7 a) (zy7 b) (zzy a) (zzy b) (yef a b)).2⟩
theorem aq56 (ax:Axs) (a b:Pat):(∀ (S:TS) (x y:f7),tBin Try.prog (EE ax) S 56 .eql x y (.agg (a.mask.l.map (fh .i64)++(a.bits.l.map (fh .i64)))) (.agg (b.mask.l.map (fh .i64)++(b.bits.l.map (fh .i64))))=some (.bool (decide (a=b))))/\(∀ (S:TS) (x y:f7),tBin Try.prog (EE ax) S 56 .neq x y (.agg (a.mask.l.map (fh .i64)++(a.bits.l.map (fh .i64)))) (.agg (b.mask.l.map (fh .i64)++(b.bits.l.map (fh .i64))))=some (.bool (!(decide (a=b))))):=⟨fun _ _ _=>(zqq (sh:=ybi) (by kernel_rfl) (by kernel_rfl) (z51 a) (z51 b) (z7y a) (z7y b) (ykd a b)).1,fun _ _ _=>(zqq (sh:=ybi) (by kernel_rfl) (by kernel_rfl) (z51 a) (z51 b) (z7y a) (z7y b) (ykd a b)).2⟩
theorem aq86 (ax:Axs) (a b:Alt):(∀ (S:TS) (x y:f7),tBin Try.prog (EE ax) S 86 .eql x y (.agg (fh .i64 a.link :: (a.mod.mask.l.map (fh .i64)++(a.mod.bits.l.map (fh .i64))))) (.agg (fh .i64 b.link :: (b.mod.mask.l.map (fh .i64)++(b.mod.bits.l.map (fh .i64)))))=some (.bool (decide (a=b))))/\(∀ (S:TS) (x y:f7),tBin Try.prog (EE ax) S 86 .neq x y (.agg (fh .i64 a.link :: (a.mod.mask.l.map (fh .i64)++(a.mod.bits.l.map (fh .i64))))) (.agg (fh .i64 b.link :: (b.mod.mask.l.map (fh .i64)++(b.mod.bits.l.map (fh .i64)))))=some (.bool (!(decide (a=b))))):=⟨fun _ _ _=>(zqq (sh:=ybj) (by kernel_rfl) (by kernel_rfl) (z52 a) (z52 b) (z7z a) (z7z b) (yke a b)).1,fun _ _ _=>(zqq (sh:=ybj) (by kernel_rfl) (by kernel_rfl) (z52 a) (z52 b) (z7z a) (z7z b) (yke a b)).2⟩
theorem eqA:type_of% (fd (fd (fd (fd (@ints.eq_1) (fd (@z4u.eq_1) (@z3a))) (fd (@z1p) (fd (@strs.eq_1) (@zib.eq_1)))) (fd (fd (@ePat.eq_1) (fd (@eAlt.eq_1) (@lAlt.eq_1))) (fd (@za3.eq_1) (fd (@z29) (@z1o))))) (fd (fd (fd (@zaj.eq_1) (fd (@zqe.eq_1) (@zqf.eq_1))) (fd (@zqg.eq_1) (fd (@zgd.eq_1) (@zge.eq_1)))) (fd (fd (@zgf.eq_1) (fd (@eNet.eq_1) (@zae.eq_1))) (fd (@zof.eq_1) (fd (@lPat.eq_1) (@yhw)))))):=fd (fd (fd (fd (@ints.eq_1) (fd (@z4u.eq_1) (@z3a))) (fd (@z1p) (fd (@strs.eq_1) (@zib.eq_1)))) (fd (fd (@ePat.eq_1) (fd (@eAlt.eq_1) (@lAlt.eq_1))) (fd (@za3.eq_1) (fd (@z29) (@z1o))))) (fd (fd (fd (@zaj.eq_1) (fd (@zqe.eq_1) (@zqf.eq_1))) (fd (@zqg.eq_1) (fd (@zgd.eq_1) (@zge.eq_1)))) (fd (fd (@zgf.eq_1) (fd (@eNet.eq_1) (@zae.eq_1))) (fd (@zof.eq_1) (fd (@lPat.eq_1) (@yhw)))))
theorem eqB:type_of% (fd (fd (@z5n) (fd (@yah) (@zyl))) (fd (fd (@yhv) (@z5m)) (fd (@yhu) (@z5l)))):=fd (fd (@z5n) (fd (@yah) (@zyl))) (fd (fd (@yhv) (@z5m)) (fd (@yhu) (@z5l)))
theorem eqsA:type_of% (fd (fd (fd (fd (@z32) (fd (@sgT) (@sgT1))) (fd (@sgD) (fd (@sgD1) (@sgG)))) (fd (fd (@splA) (fd (@yng) (@ynf))) (fd (@splS) (fd (@yfa) (@z3j))))) (fd (fd (fd (@zuf) (fd (@z0d) (@z0m))) (fd (@z2u) (fd (@yiz) (@yn6)))) (fd (fd (@yiy) (fd (@ydp) (@yej))) (fd (@ym0) (fd (@Ar.len) (@zq6)))))):=fd (fd (fd (fd (@z32) (fd (@sgT) (@sgT1))) (fd (@sgD) (fd (@sgD1) (@sgG)))) (fd (fd (@splA) (fd (@yng) (@ynf))) (fd (@splS) (fd (@yfa) (@z3j))))) (fd (fd (fd (@zuf) (fd (@z0d) (@z0m))) (fd (@z2u) (fd (@yiz) (@yn6)))) (fd (fd (@yiy) (fd (@ydp) (@yej))) (fd (@ym0) (fd (@Ar.len) (@zq6)))))
theorem eqsB:type_of% (fd (fd (fd (@z3d) (@z0e)) (fd (@ykp) (@sub0))) (fd (fd (@z5v) (@zz8)) (fd (@yav) (fd (@ykq) (@yfe))))):=fd (fd (fd (@z3d) (@z0e)) (fd (@ykp) (@sub0))) (fd (fd (@z5v) (@zz8)) (fd (@yav) (fd (@ykq) (@yfe))))
theorem idsA:type_of% (fd (fd (fd (fd (@zp1) (fd (@z2a) (@z2c))) (fd (@zxt) (fd (@z7f) (@z17)))) (fd (fd (@zp4) (fd (@zsp) (@zsq))) (fd (@zso) (fd (@z19) (@z16))))) (fd (fd (fd (@zp0) (fd (@zxu) (@zp2))) (fd (@zp3) (fd (@zp5) (@zp6)))) (fd (fd (@zul) (fd (@zxq) (@zxl))) (fd (@zum) (fd (@zxs) (@zxn)))))):=fd (fd (fd (fd (@zp1) (fd (@z2a) (@z2c))) (fd (@zxt) (fd (@z7f) (@z17)))) (fd (fd (@zp4) (fd (@zsp) (@zsq))) (fd (@zso) (fd (@z19) (@z16))))) (fd (fd (fd (@zp0) (fd (@zxu) (@zp2))) (fd (@zp3) (fd (@zp5) (@zp6)))) (fd (fd (@zul) (fd (@zxq) (@zxl))) (fd (@zum) (fd (@zxs) (@zxn)))))
theorem idsB:type_of% (fd (fd (fd (fd (@zun) (@zxv)) (fd (@zxo) (@z7i))) (fd (fd (@zuk) (@zxp)) (fd (@zxk) (@z2b)))) (fd (fd (fd (@zxr) (@zxm)) (fd (@z7h) (@z18))) (fd (fd (@z15) (@yi2)) (fd (@zgl) (fd (@ydz) (@zax)))))):=fd (fd (fd (fd (@zun) (@zxv)) (fd (@zxo) (@z7i))) (fd (fd (@zuk) (@zxp)) (fd (@zxk) (@z2b)))) (fd (fd (fd (@zxr) (@zxm)) (fd (@z7h) (@z18))) (fd (fd (@z15) (@yi2)) (fd (@zgl) (fd (@ydz) (@zax)))))
structure ymv (ax:Axs):Prop where
  no:∀ f,fy f 9=false->ax f=none
  san:Pure Try.prog (EE ax) [] 9 [] (.bool true)
theorem Pure.clr {P:gn} {Γ:Env} {GL:List (Nat×List Value)} {f:FuncId} {args:List T} {v v2:T} {S:TS} (k:Pure P Γ GL f args v) (e:v=v2):zal P Γ GL f args S v2:=e ▸ k.call S
mutual
inductive Rt (W:World):T->Value->Prop
  |int (k n):Rt W (.int k n) (.int k n)
  |bool (b):Rt W (.bool b) (.bool b)
  |str (b):Rt W (.str b) (.string b)
  |agg {l cs}:RtL W l cs->Rt W (.agg l) (.agg ⟨cs⟩)
  |nil {e}:Rt W (.lst e []) (.slice none 0 0)
  |zero {e a}:0<e->0<W.heap.size->Rt W (.lst e []) (.slice (some a) 0 0)
  |lst {e l b off cap cs}:RtL W (l.flatMap jd) cs->(∀ t,t∈l->t.cells.length=e)->0<e->l.length<=cap->cap<=maxLen->(W.cell? ⟨b,off,none⟩).isSome=true->(∀ (j:Nat) u,cs[j]?=some u->W.cell? ⟨b,off+j,none⟩=some u)->Rt W (.lst e l) (.slice (some ⟨b,off,none⟩) l.length cap)
inductive RtL (W:World):List T->List Value->Prop
  |nil:RtL W [] []
  |cons {t v l vs}:Rt W t v->RtL W l vs->RtL W (t :: l) (v :: vs)
end
section
variable {W:World} {N:Nat} {G:List Nat} {K:List (Nat×List Value)}
theorem RtL.len:∀ {l:List T} {vs:List Value},RtL W l vs->l.length=vs.length
  |_,_,.nil=>rfl
  |_,_,.cons _ h=>by rw [gh,gh,h.len]
theorem z5d {b j k:Nat} (h:(W.cell? ⟨b,k,none⟩).isSome=true) (hj:j<=k):(W.cell? ⟨b,j,none⟩).isSome=true:=by
  unfold rq at h ⊢;simp only at h ⊢;split at h
  . rename_i c _ _ hb;simp only [Option.isSome_none,Bool.false_eq_true,if_false] at h ⊢
    have:k<c.size:=by
      by_cases hk:k<c.size
      . exact hk
      . rw [Array.getElem?_eq_none (by omega)] at h;simp at h
    rw [kw (by omega)];rfl
  . simp at h
theorem yhb {b k:Nat} (h:(W.cell? ⟨b,k,none⟩).isSome=true):b<W.heap.size:=by
  unfold rq at h;simp only at h;by_cases hb:b<W.heap.size
  . exact hb
  . rw [Array.getElem?_eq_none (by omega)] at h;simp at h
theorem ztt {u:Nat} {m:List (Nat×List Value)}:∀ {l:List (Nat×List Value)},(∀ p,p∈l->p.1≠u)->zbp (l++m) u=zbp m u
  |[],_=>rfl
  |p :: l,h=>by
    show (bif fy p.1 u then some p.2 else zbp (l++m) u)=_;rw [zi0 (h p (by simp)),cond_false];exact ztt fun q hq=>h q (by simp [hq])
theorem ztj {f:Nat} {q:Seg}:∀ {F:List Seg} {i j:Nat},F[i]?=some q->q.b=f->zbp (zkj N f j F) ((N+(j+i))*1024)=some q.cs
  |[],i,j,h,_=>by simp at h
  |p :: F,0,j,h,hb=>by
    simp only [gz,fe] at h;subst h;unfold zkj;rw [zAc hb]
    simp [zbp,Nat.beq_refl]
  |p :: F,i+1,j,h,hb=>by
    have ih:=ztj (F:=F) (i:=i) (j:=j+1) (by simpa using h) hb;rw [show j+1+i=j+(i+1) by omega] at ih;unfold zkj;split
    . unfold zbp
      have:fy ((N+j)*1024) ((N+(j+(i+1)))*1024)=false:=by
        cases hq:fy ((N+j)*1024) ((N+(j+(i+1)))*1024) with
        |false=>rfl
        |true=>have:=fl hq;omega
      rw [this];exact ih
    . exact ih
def Low (N:Nat):Nat->Prop:=fun f=>f<N
structure En (W:World) (N:Nat) (G:List Nat) (K:List (Nat×List Value)) (pre A:List Seg) (l:List T) (xs vs:List Value):Prop where
  vr:∀ post,RL (VR (sgS N G K (pre++A++post))) xs vs
  vl:∀ post,VL (Low N) bx0 (famS N K (pre++A++post)) l xs
  at_:∀ post q,q∈A->yov (sgS N G K (pre++A++post)) W q
theorem ynh (hK:∀ p,p∈K->has G p.1=true) (hG:∀ g,has G g=true->g<N) {F:List Seg} {i:Nat} {q:Seg} (hq:F[i]?=some q) (hb:q.b<N) :
    sgS N G K F q.b ((N+i)*1024)=some (q.b,q.o,q.o+q.cs.length)/\zbp (famS N K F q.b).rows ((N+i)*1024)=some q.cs:=by
  constructor
  . unfold sgS;rw [zAd (by rintro ⟨_,h⟩;omega),zAc (by omega)];have e:(N+i)*1024 / 1024 - N=i:=by omega
    rw [e,hq];show (if q.b=q.b then _ else _)=_;rw [zAc rfl]
  . show zbp ((famK K q.b).rows++zkj N q.b 0 F) _=_;rw [ztt fun p hp=>?_]
    . have:=ztj (N:=N) (j:=0) hq rfl
      rwa [i5] at this
    . obtain ⟨h1,h2,_⟩:=zuy hp;have:=hG _ (hK _ h2);rw [h1];simp only at this;omega
theorem ydv {α:Type} (pre A post:List α) (q:α):(pre++(A++[q])++post)[pre.length+A.length]?=some q:=by
  rw [gj,gj,im (by omega),im (by omega)];simp
mutual
theorem ent (hN:N=W.heap.size) (hK:∀ p,p∈K->has G p.1=true) (hG:∀ g,has G g=true->g<N):∀ {t:T} {v:Value},Rt W t v->∀ pre,∃ A x,En W N G K pre A [t] [x] [v]
  |_,_,.int k n,pre=>⟨[],.int k n,⟨fun _=>⟨zia 3 rfl,trivial⟩,fun _=>.cons (.int k n) .nil,fun _ q hq=>by simp at hq⟩⟩
  |_,_,.bool b,pre=>⟨[],.bool b,⟨fun _=>⟨zia 3 rfl,trivial⟩,fun _=>.cons (.bool b) .nil,fun _ q hq=>by simp at hq⟩⟩
  |_,_,.str b,pre=>⟨[],.string b,⟨fun _=>⟨zia 3 rfl,trivial⟩,fun _=>.cons (.str b) .nil,fun _ q hq=>by simp at hq⟩⟩
  |_,_,.agg h,pre=>by
    obtain ⟨A,xs,k⟩:=entL hN hK hG h pre;exact ⟨A,.agg ⟨xs⟩,fun post=>⟨VR.mk ⟨_,rfl,k.vr post⟩,trivial⟩,fun post=>.cons (.agg (k.vl post)) .nil,k.at_⟩
  |_,_,.nil,pre=>⟨[],.slice none 0 0,⟨fun _=>⟨VR.mk ⟨rfl,rfl,rfl⟩,trivial⟩,fun _=>.cons .lnil .nil,fun _ q hq=>by simp at hq⟩⟩
  |.lst e _,.slice _ _ _,@Rt.zero _ _ a he hs,pre=>by
    have hi:=fun post=>ydv pre [] post (⟨0,0,[]⟩:Seg);have h0:∀ post,_:=fun post=>ynh (q:=(⟨0,0,[]⟩:Seg)) hK hG (hi post) (by show 0<N;omega);refine ⟨[⟨0,0,[]⟩],.slice (some (mkA 0 ((N+(pre.length+0))*1024) 0)) 0 0,⟨fun post=>⟨VR.mk ⟨0,0,_,(h0 post).1,a,0,rfl,fp _,fp _,ir _,fun h=>absurd rfl h,fun _=>rfl,fun _ h=>absurd rfl h⟩,trivial⟩,fun post=>.cons ?_ .nil,fun post q hq=>?_⟩⟩
    . exact .lst (l:=[]) (cs:=[]) (show (0:Nat)<N by omega) (h0 post).2 .nil (fun t ht=>by simp at ht) he rfl (.inl (by omega)) (fp _)
    . simp only [gu] at hq;subst hq;exact ⟨hs,fun j hj=>by simp at hj,fun j u hu=>by simp at hu⟩
  |.lst e l,.slice _ _ cap,@Rt.lst _ _ _ b off _ cs h hs he hl hm hc hcell,pre=>by
    obtain ⟨A,xs,k⟩:=entL hN hK hG h pre;have hxl:xs.length=cs.length:=(k.vr []).length;have hb:b<W.heap.size:=yhb hc;have hi:=fun post=>ydv pre A post (⟨b,off,xs⟩:Seg);have h0:=fun post=>ynh (q:=(⟨b,off,xs⟩:Seg)) hK hG (hi post) (by show b<N;omega);have hF:∀ post,pre++(A++[⟨b,off,xs⟩])++post=pre++A++((⟨b,off,xs⟩:Seg) :: post):=fun post=>by simp
    refine ⟨A++[⟨b,off,xs⟩],.slice (some (mkA b ((N+(pre.length+A.length))*1024) 0)) l.length cap,⟨fun post=>⟨VR.mk ⟨b,off,_,(h0 post).1,⟨b,off,none⟩,cap,rfl,hl,fp _,hm,fun _=>rfl,fun _=>rfl,fun ht=>?_⟩,trivial⟩,fun post=>.cons ?_ .nil,fun post q hq=>?_⟩⟩
    . rw [zjm] at ht;omega
    . refine .lst (cs:=xs) (show b<N by omega) (h0 post).2 ?_ hs he (by rw [gp,List.take_length]) (.inl (by omega)) hl;rw [hF];exact k.vl _
    . rcases io.1 hq with hq|hq
      . rw [hF];exact k.at_ _ q hq
      . simp only [gu] at hq;subst hq;refine ⟨hb,fun j hj=>?_,fun j u hu=>?_⟩
        . have hj:j<off+xs.length:=hj;by_cases h1:j<=off
          . exact z5d hc h1
          . have hjc:j - off<cs.length:=by omega
            have:=hcell (j - off) _ (fk hjc);rw [show off+(j - off)=j by omega] at this;rw [this];rfl
        . have hju:j<xs.length:=(ge.1 hu).1;have hu:xs[j]?=some u:=hu;have hcs:=fk (l:=cs) (i:=j) (by omega);refine ⟨_,hcell j _ hcs,?_⟩;rw [hF];obtain ⟨y,hy1,hy2⟩:=(k.vr (⟨b,off,xs⟩ :: post)).at hu;rw [hcs] at hy1;cases hy1;exact hy2
theorem entL (hN:N=W.heap.size) (hK:∀ p,p∈K->has G p.1=true) (hG:∀ g,has G g=true->g<N):∀ {l:List T} {vs:List Value},RtL W l vs->∀ pre,∃ A xs,En W N G K pre A l xs vs
  |_,_,.nil,pre=>⟨[],[],⟨fun _=>trivial,fun _=>.nil,fun _ q hq=>by simp at hq⟩⟩
  |_,_,.cons h1 h2,pre=>by
    obtain ⟨A1,x,k1⟩:=ent hN hK hG h1 pre;obtain ⟨A2,xs,k2⟩:=entL hN hK hG h2 (pre++A1);have e1:∀ post,pre++(A1++A2)++post=pre++A1++(A2++post):=fun post=>by simp
    have e2:∀ post,pre++(A1++A2)++post=pre++A1++A2++post:=fun post=>by simp
    refine ⟨A1++A2,x :: xs,⟨fun post=>⟨?_,?_⟩,fun post=>?_,fun post q hq=>?_⟩⟩
    . rw [e1];exact (k1.vr _).1
    . rw [e2];exact k2.vr _
    . have a:=k1.vl (A2++post);have b:=k2.vl post;rw [<- e1] at a;rw [<- e2] at b
      cases a with
      |cons a _=>exact .cons a b
    . rcases io.1 hq with hq|hq
      . rw [e1];exact k1.at_ _ q hq
      . rw [e2];exact k2.at_ _ q hq
end
end
inductive Sh where
  |int (k:iu)
  |bool
  |str
  |slice (e:Sh)
  |struct (l:List Sh)
  |arr (k:iu) (n:Nat)
mutual
def Sh.sz:Sh->Nat
  |.struct l=>Sh.szL l
  |.arr _ n=>n
  |_=>1
def Sh.szL:List Sh->Nat
  |[]=>0
  |s :: l=>s.sz+Sh.szL l
end
mutual
def shOk (P:gn):Sh->gm->Bool
  |.int k,t=>match P.underlying t with|some (.int k')=>decide (k=k')|_=>false
  |.bool,t=>match P.underlying t with|some .bool=>true|_=>false
  |.str,t=>match P.underlying t with|some .string=>true|_=>false
  |.slice s,t=>match P.underlying t with|some (.slice e)=>fy (P.cellsOf e) s.sz && (Nat.blt 0 s.sz && shOk P s e)|_=>false
  |.struct l,t=>match P.underlying t with|some (.struct fs)=>fy (P.cellsOf t) (Sh.szL l) && z88 P l fs.toList 0|_=>false
  |.arr k n,t=>match P.underlying t with|some (.array m e)=>fy m n && (fy (P.cellsOf t) n && (fy (P.cellsOf e) 1 && (match P.underlying e with|some (.int k')=>decide (k=k')|_=>false)))|_=>false
def z88 (P:gn):List Sh->List Field->Nat->Bool
  |[],[],_=>true
  |s :: l,f :: fs,o=>fy f.offset o && (fy (P.cellsOf f.type) s.sz && (shOk P s f.type && z88 P l fs (o+s.sz)))
  |_,_,_=>false
end
mutual
def conf:Sh->T->Prop
  |.int k,t=>∃ n,t=.int k n/\(Lit.int k n).wf=true
  |.bool,t=>∃ b,t=.bool b
  |.str,t=>∃ s,t=.str s/\s.size<=maxLen
  |.slice e,t=>∃ l,t=.lst e.sz l/\l.length<=maxLen/\∀ x,x∈l->conf e x
  |.struct l,t=>∃ cs,t=.agg cs/\ymb l cs
  |.arr k n,t=>∃ a:Ar n,t=.agg (a.l.map (fh k))/\∀ x,x∈a.l->(Lit.int k x).wf=true
def ymb:List Sh->List T->Prop
  |[],cs=>cs=[]
  |s :: l,cs=>∃ x r,cs=x.cells++r/\conf s x/\ymb l r
end
theorem yex {α:Type} {p:Nat->α->Prop}:∀ n,(∀ i,i<n->∃ x,p i x)->∃ l:List α,l.length=n/\∀ i (hi:i<l.length),p i l[i]:=by
  intro n
  induction n with
  |zero=>intro _;exact ⟨[],rfl,fun i hi=>by simp at hi⟩
  |succ n ih =>
    intro h;obtain ⟨l,hl,hp⟩:=ih (fun i hi=>h i (by omega));obtain ⟨x,hx⟩:=h n (by omega);refine ⟨l++[x],by simp [hl],fun i hi=>?_⟩;by_cases hin:i<l.length
    . rw [List.getElem_append_left hin];exact hp i hin
    . have:i=l.length:=by simp at hi;omega
      subst this;rw [List.getElem_append_right (fp _)];simpa [hl] using hx
section
variable {H:Type} {enc:gm×Value->H} {P:gn} {W:World}
theorem RtL.append:∀ {l l2:List T} {vs vs2:List Value},RtL W l vs->RtL W l2 vs2->RtL W (l++l2) (vs++vs2)
  |_,_,_,_,.nil,k=>k
  |_,_,_,_,.cons h k,k2=>.cons h (k.append k2)
theorem RtL.flat:∀ {l:List (T×List Value)},(∀ p,p∈l->RtL W p.1.cells p.2)->RtL W ((l.map (·.1)).flatMap jd) (l.map (·.2)).flatten
  |[],_=>.nil
  |p :: l,h=>by
    rw [i4,jb,i4,ii];exact (h p (by simp)).append (RtL.flat fun q hq=>h q (by simp [hq]))
theorem zxz {b k:Nat}:∀ {l:List (List Value)} {o:Nat},(∀ c,c∈l->c.length=k)->(∀ (i:Nat) c,l[i]?=some c->∀ j,j<k->W.cell? ⟨b,o+i*k+j,none⟩=c[j]?)->∀ (j:Nat) u,l.flatten[j]?=some u->W.cell? ⟨b,o+j,none⟩=some u
  |[],o,_,_,j,u,h=>by simp at h
  |c :: l,o,hl,hc,j,u,h=>by
    have hck:=hl c (by simp);rw [ii] at h;by_cases hj:j<c.length
    . rw [gi hj] at h;have:=hc 0 c rfl j (by omega);rw [Nat.zero_mul,jq] at this;rw [this,h]
    . rw [im (by omega)] at h
      have:=zxz (o:=o+k) (fun c hc=>hl c (by simp [hc])) (fun i c' hi j hj=>by
        have:=hc (i+1) c' (by simpa using hi) j hj;rw [show o+(i+1)*k+j=o+k+i*k+j by rw [jm];omega] at this
        exact this) (j - c.length) u h
      rw [show o+k+(j - c.length)=o+j by omega] at this;exact this
def zvg (W:World) (cs:List Value):Prop:=∀ v,v∈cs->(∃ a n c,v=.slice (some a) n c)->0<W.heap.size
theorem zvg.of (h:0<W.heap.size) (cs:List Value):zvg W cs:=fun _ _ _=>h
theorem zvg.sub {cs cs':List Value} (h:zvg W cs) (hs:∀ v,v∈cs'->v∈cs):zvg W cs':=fun v hv=>h v (hs v hv)
theorem z87 {s:Sh} {e t:gm} {fuel:Nat} {cs:List Value} {x:DataW H×List MemPlace} (ht:P.underlying t=some (.slice e)) (hsz:P.cellsOf e=s.sz) (hpos:0<s.sz)
    (ih:∀ {fuel:Nat} {cs:List Value} {x:DataW H×List MemPlace},DataW.trod enc P W 0 (fun _=>true) true fuel e cs=some x->zvg W cs->∃ tr,conf s tr/\RtL W tr.cells cs)
    (h:DataW.trod enc P W 0 (fun _=>true) true fuel t cs=some x) (hz:zvg W cs):∃ tr,conf (.slice s) tr/\RtL W tr.cells cs:=by
  rcases Go.Deep.open_slice ht h with ⟨rfl,_⟩|⟨a,len,cap,m,n,D,Pl,rfl,hb,hl,hm,hmm,_,hall⟩
  . exact ⟨.lst s.sz [],⟨[],rfl,ir _,fun x hx=>by simp at hx⟩,.cons .nil .nil⟩
  . have hh:0<W.heap.size:=hz (.slice (some a) len cap) (by simp) ⟨_,_,_,rfl⟩;simp only [if_true] at hmm;subst hmm;rw [hsz] at hall;by_cases h0:m=0
    . subst h0;have:len=0:=by omega
      subst this;exact ⟨.lst s.sz [],⟨[],rfl,ir _,fun x hx=>by simp at hx⟩,.cons (.zero hpos hh) .nil⟩
    obtain ⟨cs0,hc0,_⟩:=hall 0 (by omega);obtain ⟨_,hl0,hcc0⟩:=World.cells?_some hc0
    have hcell0:((W.cell? ((a.add (0*s.sz)).add 0))).isSome=true:=by
      rw [hcc0 0 hpos,fk (by omega)];rfl
    obtain ⟨b,off,spot⟩:=a
    have hspot:spot=none:=by
      cases hq:W.cell? (((⟨b,off,spot⟩:Addr).add (0*s.sz)).add 0) with
      |none=>rw [hq] at hcell0;simp at hcell0
      |some u=>simpa [Addr.add] using World.cell?_spot hq
    subst hspot;simp only [nr,Nat.zero_mul,jq] at hcell0
    obtain ⟨l,hll,hp⟩:=yex (p:=fun i (p:T×List Value)=>conf s p.1/\RtL W p.1.cells p.2/\p.2.length=s.sz/\∀ j,j<s.sz->W.cell? ⟨b,off+i*s.sz+j,none⟩=p.2[j]?) len (fun i hi=>by
      obtain ⟨cs',h1,h2⟩:=hall i (by omega);obtain ⟨tr,k1,k2⟩:=ih h2 (zvg.of hh _);obtain ⟨-,hcl,hcc⟩:=World.cells?_some h1
      exact ⟨(tr,cs'),k1,k2,hcl,fun j hj=>by have:=hcc j hj;rw [nr,nr] at this;exact this⟩)
    have hmem:∀ p,p∈l->∃ i,i<l.length/\l[i]?=some p/\conf s p.1/\RtL W p.1.cells p.2/\p.2.length=s.sz:=fun p hp'=>by
      obtain ⟨i,hi,rfl⟩:=mq hp';exact ⟨i,hi,fk hi,(hp i hi).1,(hp i hi).2.1,(hp i hi).2.2.1⟩
    refine ⟨.lst s.sz (l.map (·.1)),⟨_,rfl,by rw [fq];omega,fun x hx=>?_⟩,.cons ?_ .nil⟩
    . obtain ⟨p,hp1,rfl⟩:=jo.1 hx;obtain ⟨_,_,_,k,_⟩:=hmem p hp1;exact k
    . have:=Rt.lst (W:=W) (e:=s.sz) (l:=l.map (·.1)) (b:=b) (off:=off) (cap:=m) (cs:=(l.map (·.2)).flatten) (RtL.flat fun p hp1=>by obtain ⟨_,_,_,_,k,_⟩:=hmem p hp1;exact k) (fun t ht'=>?_) hpos (by rw [fq];omega) hm hcell0 ?_
      . rw [fq,hll] at this;exact this
      . obtain ⟨p,hp1,rfl⟩:=jo.1 ht';obtain ⟨_,_,_,_,k,k2⟩:=hmem p hp1;rw [k.len,k2]
      . refine zxz (k:=s.sz) (fun c hc=>?_) (fun i c hi=>?_)
        . obtain ⟨p,hp1,rfl⟩:=jo.1 hc;obtain ⟨_,_,_,_,_,k2⟩:=hmem p hp1;exact k2
        . rw [lj] at hi
          cases hq:l[i]? with
          |none=>rw [hq] at hi;simp at hi
          |some p =>
            rw [hq] at hi;simp only [Option.map_some,fe] at hi;subst hi;have hil:=(ge.1 hq).1;have:l[i]=p:=(ge.1 hq).2;have:=(hp i hil).2.2.2;rw [‹l[i]=p›] at this;exact this
theorem z82 {W:World} {k:iu}:∀ (l:List Int),RtL W (l.map (fh k)) (l.map (jh k))
  |[]=>.nil
  |x :: l=>.cons (.int _ _) (z82 l)
theorem beqN {a b:Nat} (h:fy a b=true):a=b:=fl h
mutual
theorem zt3:∀ {s:Sh} {t:gm} {fuel:Nat} {cs:List Value} {x:DataW H×List MemPlace},shOk P s t=true->DataW.trod enc P W 0 (fun _=>true) true fuel t cs=some x->zvg W cs->∃ tr,conf s tr/\RtL W tr.cells cs
  |.int k,t,fuel,cs,x,hs,h,hz=>by
    unfold shOk at hs;split at hs
    . rename_i k' hu;have:k=k':=zAe hs;subst this;obtain ⟨n,rfl,-,hw⟩:=DataW.trod_int hu h;exact ⟨.int k n,⟨n,rfl,hw⟩,.cons (.int k n) .nil⟩
    . simp at hs
  |.bool,t,fuel,cs,x,hs,h,hz=>by
    unfold shOk at hs;split at hs
    . rename_i hu;obtain ⟨b,rfl,-⟩:=DataW.trod_bool hu h;exact ⟨.bool b,⟨b,rfl⟩,.cons (.bool b) .nil⟩
    . simp at hs
  |.str,t,fuel,cs,x,hs,h,hz=>by
    unfold shOk at hs;split at hs
    . rename_i hu;obtain ⟨b,rfl,-,hb⟩:=DataW.trod_string hu h;exact ⟨.str b,⟨b,rfl,hb⟩,.cons (.str b) .nil⟩
    . simp at hs
  |.slice s,t,fuel,cs,x,hs,h,hz=>by
    unfold shOk at hs;split at hs
    . rename_i e hu;simp only [fj] at hs;exact z87 hu (beqN hs.1) (zad.1 hs.2.1) (fun h hz=>zt3 hs.2.2 h hz) h hz
    . simp at hs
  |.struct l,t,fuel,cs,x,hs,h,hz=>by
    unfold shOk at hs;split at hs
    . rename_i fs hu;simp only [fj] at hs;obtain ⟨xs,n,-,-,hl,hxl,hall⟩:=DataW.trod_struct hu h
      obtain ⟨ts,k1,k2⟩:=z6v (fs:=fs.toList) (o:=0) (pre:=cs) (fuel:=n) hs.2 (fun f hf=>by
        obtain ⟨i,hi,rfl⟩:=mq hf;have hi':i<fs.size:=by simpa using hi
        have:=hall i fs[i] (kw hi');rw [fk (by omega)] at this
        exact ⟨_,by rw [Array.getElem_toList];exact this⟩) (by rw [hl,beqN hs.1];omega) hz
      rw [gp] at k2;have hlen:cs.take (Sh.szL l)=cs:=ij (by rw [hl,beqN hs.1];exact fp _);rw [hlen] at k2;exact ⟨.agg ts,⟨ts,rfl,k1⟩,k2⟩
    . simp at hs
  |.arr k n,t,fuel,cs,x,hs,h,hz=>by
    unfold shOk at hs;split at hs
    . rename_i m e hu;simp only [fj] at hs;obtain ⟨h1,h2,h3,h4⟩:=hs;split at h4
      . rename_i k' he;have hkk:k=k':=zAe h4;subst hkk;have hmn:=beqN h1;subst hmn;obtain ⟨xs,fu,rfl,hx1,hlen,hxl,hel⟩:=DataW.trod_array hu h;have hl:cs.length=m:=by rw [hlen];exact beqN h2
        have key:∀ i,i<m->∃ z,cs[i]?=some (.int k z)/\(Lit.int k z).wf=true:=by
          intro i hi;have h0:=hel i hi;rw [beqN h3,qi,fk (by omega)] at h0;obtain ⟨z,e1,e2,e3⟩:=DataW.trod_int he h0;refine ⟨z,?_,e3⟩;have:(cs.drop i)[0]?=((cs.drop i).take 1)[0]?:=by rw [List.getElem?_take_of_lt (by omega)]
          have e1':(cs.drop i).take 1=[.int k z]:=e1;rw [e1'] at this;simpa using this
        obtain ⟨l,hl2,hp⟩:=yex (p:=fun i (z:Int)=>cs[i]?=some (.int k z)/\(Lit.int k z).wf=true) m key
        have hcl:cs=l.map (jh k):=by
          apply List.ext_getElem (by rw [hl,fq,hl2]);intro i h1 h2;have:=(hp i (by rw [hl2,<- hl];exact h1)).1;rw [fk h1] at this;rw [List.getElem_map];exact Option.some.inj this
        refine ⟨.agg (l.map (fh k)),⟨⟨l,hl2⟩,rfl,fun x hx=>?_⟩,?_⟩
        . obtain ⟨i,hi,rfl⟩:=mq hx;exact (hp i hi).2
        . rw [hcl];exact z82 l
      . simp at h4
    . simp at hs
theorem z6v:∀ {l:List Sh} {fs:List Field} {o fuel:Nat} {pre:List Value},z88 P l fs o=true->(∀ f,f∈fs->∃ x,DataW.trod enc P W 0 (fun _=>true) true fuel f.type ((pre.drop f.offset).take (P.cellsOf f.type))=some x)->o+Sh.szL l<=pre.length->zvg W pre->∃ ts,ymb l ts/\RtL W ts ((pre.drop o).take (Sh.szL l))
  |[],[],o,fuel,pre,hs,h,hl,hz=>⟨[],rfl,by unfold Sh.szL;rw [m7];exact .nil⟩
  |[],_ :: _,o,fuel,pre,hs,h,hl,hz=>by simp [z88] at hs
  |_ :: _,[],o,fuel,pre,hs,h,hl,hz=>by simp [z88] at hs
  |s :: l,f :: fs,o,fuel,pre,hs,h,hl,hz=>by
    unfold z88 at hs;unfold Sh.szL at hl ⊢;simp only [fj] at hs;obtain ⟨x,hx⟩:=h f (by simp);rw [beqN hs.1,beqN hs.2.1] at hx;obtain ⟨tr,k1,k2⟩:=zt3 hs.2.2.1 hx (hz.sub fun v hv=>List.mem_of_mem_drop (List.mem_of_mem_take hv));obtain ⟨ts,k3,k4⟩:=z6v (o:=o+s.sz) (pre:=pre) (fuel:=fuel) hs.2.2.2 (fun g hg=>h g (by simp [hg])) (by omega) hz;refine ⟨tr.cells++ts,⟨tr,ts,rfl,k1,k3⟩,?_⟩;have:=k2.append k4;rw [show List.take s.sz (List.drop o pre)++List.take (Sh.szL l) (List.drop (o+s.sz) pre)=List.take (s.sz+Sh.szL l) (List.drop o pre) by rw [List.take_add,lp]] at this;exact this
end
theorem zr0 {r:Reach} {base:Nat} {u:gm} {a:Addr} {n c:Nat} (h:Cell.okWide P W r base u (.slice (some a) n c)):0<W.heap.size:=by
  have key:Cell.ok P W r base u (.slice (some a) n c)->0<W.heap.size:=fun h=>by
    unfold Cell.ok at h;split at h<;>first|contradiction | (exact h.elim)|skip
    rename_i hq;cases hq;obtain ⟨-,-,-,-,row,cells,hs,-⟩:=h;unfold World.shape? at hs;by_cases hb:0<W.heap.size
    . exact hb
    . rw [Array.getElem?_eq_none (by omega)] at hs;simp at hs
  unfold Cell.okWide at h;split at h<;>first|exact key h|contradiction
theorem z96 {r:Reach} {base:Nat} {u:gm} {cs:Array Value} (h:Cell.okWide P W r base u (.agg cs)):False:=by
  unfold Cell.okWide at h;split at h<;>first|contradiction | (unfold Cell.ok at h;split at h<;>first|contradiction|exact h)
theorem zzk {r:Reach} {base:Nat} {s:Sh} {t:gm} {v:Value} {d:DataW H} {ps:List MemPlace} (hs:shOk P s t=true) (hv:rf P W r base t v) (h:DataW.Trod enc P W 0 (fun _=>true) true t v d ps):∃ tr,conf s tr/\Rt W tr v:=by
  obtain ⟨fuel,h⟩:=h
  have one:(∀ fs,P.underlying t≠some (.struct fs))->(∀ n e,P.underlying t≠some (.array n e))->(∀ l,s≠.struct l)->(∀ k n,s≠.arr k n)->∃ tr,conf s tr/\Rt W tr v:=fun h1 h2 h3 h4=>by
    have hc:Cell.okWide P W r base t v:=by
      unfold rf at hv;split at hv
      . rename_i fs hu;exact absurd hu (h1 fs)
      . rename_i n e hu;exact absurd hu (h2 n e)
      . exact hv
    have hcs:v.cells.toList=[v]:=by
      cases v<;>first|rfl|exact (z96 hc).elim
    rw [hcs] at h
    obtain ⟨tr,k1,k2⟩:=zt3 hs h (fun x hx ⟨a,n,c,he⟩=>by
      simp only [gu] at hx;subst hx;subst he
      exact zr0 hc)
    have ht:tr.cells=[tr]:=by
      cases s with
      |struct l=>exact absurd rfl (h3 l)
      |int k=>obtain ⟨n,rfl,_⟩:=k1;rfl
      |bool=>obtain ⟨n,rfl⟩:=k1;rfl
      |str=>obtain ⟨n,rfl,_⟩:=k1;rfl
      |slice e=>obtain ⟨l,rfl,_⟩:=k1;rfl
      |arr k n=>exact absurd rfl (h4 k n)
    rw [ht] at k2
    cases k2 with
    |cons a _=>exact ⟨tr,k1,a⟩
  cases s with
  |struct l =>
    have hu:∃ fs,P.underlying t=some (.struct fs):=by
      unfold shOk at hs;split at hs
      . rename_i fs hu;exact ⟨fs,hu⟩
      . simp at hs
    obtain ⟨fs,hu⟩:=hu;unfold rf at hv;rw [hu] at hv;obtain ⟨cs,rfl,-,ts,-,-,hall⟩:=hv
    obtain ⟨tr,k1,k2⟩:=zt3 hs h (fun x hx ⟨a,n,c,he⟩=>by
      subst he;obtain ⟨i,hi,hq⟩:=mq hx;have hi':i<cs.size:=by simpa [Value.cells] using hi
      obtain ⟨u,-,hu2⟩:=hall i _ (kw hi');have:cs[i]=.slice (some a) n c:=by simpa [Value.cells] using hq
      rw [this] at hu2
      exact zr0 hu2)
    obtain ⟨ts,rfl,_⟩:=id k1;exact ⟨_,k1,.agg (by simpa [jd,Value.cells] using k2)⟩
  |int k =>
    have:∃ k',P.underlying t=some (.int k'):=by
      unfold shOk at hs;split at hs
      . rename_i k' hu;exact ⟨k',hu⟩
      . simp at hs
    obtain ⟨k',hu⟩:=this;exact one (fun fs hh=>by rw [hu] at hh;simp at hh) (fun n e hh=>by rw [hu] at hh;simp at hh) (fun l hh=>by simp at hh) (fun k n hh=>by simp at hh)
  |bool =>
    have:P.underlying t=some .bool:=by
      unfold shOk at hs;split at hs
      . rename_i hu;exact hu
      . simp at hs
    exact one (fun fs hh=>by rw [this] at hh;simp at hh) (fun n e hh=>by rw [this] at hh;simp at hh) (fun l hh=>by simp at hh) (fun k n hh=>by simp at hh)
  |str =>
    have:P.underlying t=some .string:=by
      unfold shOk at hs;split at hs
      . rename_i hu;exact hu
      . simp at hs
    exact one (fun fs hh=>by rw [this] at hh;simp at hh) (fun n e hh=>by rw [this] at hh;simp at hh) (fun l hh=>by simp at hh) (fun k n hh=>by simp at hh)
  |slice e =>
    have:∃ e,P.underlying t=some (.slice e):=by
      unfold shOk at hs;split at hs
      . rename_i e hu;exact ⟨e,hu⟩
      . simp at hs
    obtain ⟨e',hu⟩:=this;exact one (fun fs hh=>by rw [hu] at hh;simp at hh) (fun n e hh=>by rw [hu] at hh;simp at hh) (fun l hh=>by simp at hh) (fun k n hh=>by simp at hh)
  |arr k n =>
    have hu:∃ m e,P.underlying t=some (.array m e):=by
      unfold shOk at hs;split at hs
      . rename_i m e hu;exact ⟨m,e,hu⟩
      . simp at hs
    obtain ⟨m,e,hu⟩:=hu;unfold rf at hv;rw [hu] at hv;obtain ⟨cs,rfl,-⟩:=hv;have hnoslice:∀ tr:T,conf (.arr k n) tr->True:=fun _ _=>trivial;have hs0:=hs;unfold shOk at hs0;rw [hu] at hs0;simp only [fj] at hs0;obtain ⟨q1,q2,q3,q4⟩:=hs0;split at q4
    . rename_i k' he;obtain ⟨xs,fu,-,-,hlen,hxlen,hel⟩:=DataW.trod_array hu h
      have hz:zvg W (Value.agg cs).cells.toList:=fun x hx ⟨a,n2,c,he2⟩=>by
        subst he2;obtain ⟨i,hi,hq⟩:=mq hx;have hl:(Value.agg cs).cells.toList.length=n:=by rw [hlen];exact beqN q2
        have hmn:=beqN q1;have h0:=hel i (by omega);rw [beqN q3,qi] at h0
        cases hxi:xs[i]? with
        |none =>
          rw [hxi] at h0;have:=List.getElem?_eq_none_iff.1 hxi;omega
        |some z =>
          rw [hxi] at h0;obtain ⟨w,e1,-,-⟩:=DataW.trod_int he h0;have e2:((Value.agg cs).cells.toList.drop i)[0]?=(((Value.agg cs).cells.toList.drop i).take 1)[0]?:=by rw [List.getElem?_take_of_lt (by omega)]
          rw [e1,lc,jq,fk hi,hq] at e2;simp at e2
      obtain ⟨tr,k1,k2⟩:=zt3 hs h hz;obtain ⟨a,rfl,_⟩:=id k1;exact ⟨_,k1,.agg (by simpa [jd,Value.cells] using k2)⟩
    . simp at q4
end
def zug (w:Nat):Nat:=if w=0 then 0 else ke w+1
theorem zis {n:Nat} (h:2<=n):ke n=ke (n / 2)+1:=by
  rw [Nat.log2_def,zAc h]
theorem ygx {n:Nat} (h:256<=n):zug n=8+zug (n / 256):=by
  unfold zug;rw [zAd (by omega),zAd (by omega)];rw [zis (n:=n) (by omega),zis (n:=n / 2) (by omega),zis (n:=n / 2 / 2) (by omega),zis (n:=n / 2 / 2 / 2) (by omega),zis (n:=n / 2 / 2 / 2 / 2) (by omega),zis (n:=n / 2 / 2 / 2 / 2 / 2) (by omega),zis (n:=n / 2 / 2 / 2 / 2 / 2 / 2) (by omega),zis (n:=n / 2 / 2 / 2 / 2 / 2 / 2 / 2) (by omega)];rw [show n / 2 / 2 / 2 / 2 / 2 / 2 / 2 / 2=n / 256 by omega];omega
theorem zzs {n:Nat} (h:n<65536):zug n<=16:=by
  unfold zug;split
  . omega
  . have:ke n<16:=(Nat.log2_lt (by omega)).2 h;omega
def yoh (b:ByteArray):Bool:=(List.range 256).all fun k=>if h:k<b.size then fy b[k].toNat (zug k) else true
theorem yaw {b:ByteArray} (hb:yoh b=true) {k:Nat} (hk:k<256) (h:k<b.size):b[k].toNat=zug k:=by
  have:=List.all_eq_true.1 hb k (List.mem_range.2 hk);rw [dif_pos h] at this;exact fl this
theorem z5q (n:Int) (h:-9223372036854775808<=n/\n<=9223372036854775807):qc n=n:=by unfold qc;omega
theorem wrapL {n:Nat} (h:n<=64):qc (qc (n:Int))=n:=by rw [z5q (n:Int) (by omega),z5q _ (by omega)]
set_option maxRecDepth 100000 in
set_option maxHeartbeats 2000000 in
theorem z97 (n:Nat) (W:World) (hn:n<65536):Calls Try.prog 97 #[.int .u16 n] W fun e W'=>e=.returned (.int .i64 (zug n))/\W'=W:=by
  go_enter Try.func97,Try.ntmps97
  by_cases h:n<256
  . go_wp2
    go_ret
    refine ⟨?_,rfl⟩;clear W;refine congrArg (fun z=>Ending.returned (.int .i64 z)) ?_;rw [yaw (by decide +kernel) h];exact wrapL (Nat.le_trans (zzs hn) (by decide))
  . go_wp2
    go_ret
    refine ⟨?_,rfl⟩;clear W;refine congrArg (fun z=>Ending.returned (.int .i64 z)) ?_;have hk:n / 256<256:=by omega
    have h1:=zzs (n:=n / 256) (by omega);rw [ygx (by omega),yaw (by decide +kernel) hk,z5q ((zug (n / 256):Nat):Int) (by omega),z5q _ (by omega)];rfl
set_option maxRecDepth 100000 in
set_option maxHeartbeats 2000000 in
theorem ye3 (n z:Nat) (W:World) (hn:n<65536) (h0:n≠0) (hz:z=15 - ke n):Calls Try.prog 94 #[.int .u16 n] W fun e W'=>e=.returned (.int .i64 (z:Int))/\W'=W:=by
  have h16:=zzs hn;have hl:zug n=ke n+1:=by unfold zug;rw [zAd h0]
  go_enter Try.func94,Try.ntmps94
  go_wp2_with (refine (z97 _ _ hn).mono ?_;rintro e w' ⟨rfl,rfl⟩)
  go_ret
  refine ⟨?_,rfl⟩;refine congrArg (fun z=>Ending.returned (.int .i64 z)) ?_;omega
theorem yd5 {v:Value} {m:Nat} (h:i64N v=some m):v=.int .i64 (m:Nat)/\m<9223372036854775808:=by
  unfold i64N at h;split at h
  . rename_i k m';rw [zcl] at h;split at h
    . rename_i h1;simp only [fj] at h1
      have hk:k=.i64:=by
        have:=fl h1.1;cases k<;>first|rfl | (exact absurd this (by decide))
      subst hk;cases h;exact ⟨rfl,zad.1 h1.2⟩
    . cases h
  . cases h
theorem zn2:∀ {n:Nat} {cs:List Value} {l:List Nat},zgt n cs=some l->l.length=n/\(∀ j,(h:j<l.length)->l[j]<9223372036854775808)/\∀ j,(h:j<l.length)->cs[j]?=some (.int .i64 (l[j]:Nat))
  |0,cs,l,h=>by
    cases cs<;>(simp only [zgt,fe] at h;subst h;exact ⟨rfl,fun j h=>absurd h (nl _),fun j h=>absurd h (nl _)⟩)
  |n+1,[],l,h=>by simp [zgt] at h
  |n+1,v :: cs,l,h=>by
    rw [zgt] at h
    cases hv:i64N v with
    |none=>rw [hv] at h;cases h
    |some m =>
      cases hr:zgt n cs with
      |none=>rw [hv,hr] at h;cases h
      |some r =>
        rw [hv,hr] at h;cases h;obtain ⟨rfl,hm⟩:=yd5 hv;obtain ⟨a,b,c⟩:=zn2 hr;refine ⟨by rw [gh,a],fun j hj=>?_,fun j hj=>?_⟩
        . cases j with
          |zero=>exact hm
          |succ j=>exact b j (by simpa using hj)
        . cases j with
          |zero=>rfl
          |succ j=>simpa using c j (by simpa using hj)
def yfk (W:World) (v:Value) (l:List Nat):Prop:=∃ b o:Nat,v=.pointer (some ⟨b,o,none⟩)/\(∀ j,(h:j<l.length)->l[j]<9223372036854775808)/\∀ j,(h:j<l.length)->W.cell? ⟨b,o+j,none⟩=some (.int .i64 (l[j]:Nat))
theorem zly {n:Nat} {s s':CS} {v:Value} {l:List Nat} (h:zkp n s v=some (l,s')):Can s s'/\s'.obj=s.obj/\s'.n=s.n:=by
  unfold zkp at h;split at h
  . split at h
    . rename_i hr;split at h
      . simp only [fe,fm] at h;obtain ⟨rfl,rfl⟩:=h;refine ⟨znz hr,?_,?_⟩<;>(rw [(zdc hr).2])
      . cases h
    . cases h
  . cases h
theorem zt7 {n:Nat} {s s':CS} {v v':Value} {l:List Nat} {σ:Sg} {V:Nat->Prop} {W:World} (h:zkp n s v=some (l,s')) (hv:VR σ v v') (hr:Rel σ V s W) (hV:zcm V s'):l.length=n/\yfk W v' l:=by
  unfold zkp at h;split at h
  . rename_i a;split at h
    . rename_i cs s1 hrr;split at h
      . rename_i l1 hl;simp only [fe,fm] at h;obtain ⟨rfl,rfl⟩:=h;obtain ⟨b,o,z,h1,rfl⟩:=hv.ptr;have hrow:=zpm hrr hr hV h1;obtain ⟨a1,a2,a3⟩:=zn2 hl;refine ⟨a1,b,o+a.off,rfl,a2,fun j hj=>?_⟩;have:=a3 j hj;rw [lc] at this;obtain ⟨u',k1,k2⟩:=hrow.2.2.2 _ _ this;rw [k2.int] at k1;rw [Nat.add_assoc];exact k1
      . cases h
    . cases h
  . cases h
theorem ygc {caps:List Value} {s s':CS} {k:List Nat} (h:zj8.key caps s=some (k,s')):Can s s'/\s'.obj=s.obj/\s'.n=s.n:=by
  unfold zj8 at h;dsimp only at h;split at h
  . split at h
    . rename_i h1;split at h
      . rename_i h2;simp only [fe,fm] at h;obtain ⟨rfl,rfl⟩:=h;obtain ⟨c1,o1,n1⟩:=zly h1;obtain ⟨c2,o2,n2⟩:=zly h2;exact ⟨c1.trans c2,o2.trans o1,n2.trans n1⟩
      . cases h
    . cases h
  . cases h
theorem z6w {caps':Array Value} {k:List Nat} {W:World} (h:Now zj8 caps' k W):∃ p q l m,caps'=#[p,q]/\k=l++m/\l.length=10/\m.length=10/\yfk W p l/\yfk W q m:=by
  obtain ⟨σ,V,s,s1,caps,h1,h2,h3,h4,h5⟩:=h;unfold zj8 at h5;dsimp only at h5;split at h5
  . rename_i p q;split at h5
    . rename_i l s2 hp;split at h5
      . rename_i m s3 hq;simp only [fe,fm] at h5;obtain ⟨rfl,rfl⟩:=h5;obtain ⟨xs⟩:=caps'
        match xs,h1 with
        |[p',q'],h1 =>
          obtain ⟨v1,v2,_⟩:=h1;obtain ⟨c2,o2,n2⟩:=zly hq;obtain ⟨c1,o1,n1⟩:=zly hp;obtain ⟨a1,a2⟩:=zt7 hp v1 h2 (h3.back c2);obtain ⟨b1,b2⟩:=zt7 hq v2 (h2.state o1 n1) h3;exact ⟨p',q',l,m,rfl,rfl,a1,b1,a2,b2⟩
      . cases h5
    . cases h5
  . cases h5
/-! the bits of a word -/
theorem z99 (f:Nat):zvc f 0=[]:=by cases f<;>rfl
theorem yaa {f w:Nat} (h:w≠0):zvc (f+1) w=(15 - ke w) :: zvc f (w - 2 ^ ke w):=by
  rw [zvc,zi0 h,z0y];rfl
theorem yal {f w:Nat} (h:w≠0) (hw:w<2 ^ f):w - 2 ^ ke w<2 ^ (f - 1)/\w - 2 ^ ke w<w/\1<=f:=by
  have h1:ke w<f:=(Nat.log2_lt h).2 hw;have h2:w<2 ^ (ke w+1):=Nat.lt_log2_self;have h3:2 ^ ke w<=w:=qd h;have h4:2 ^ ke w<=2 ^ (f - 1):=lz (by decide) (by omega);have h5:0<2 ^ ke w:=Nat.two_pow_pos _;rw [Nat.pow_succ] at h2;exact ⟨by omega,by omega,by omega⟩
theorem z9m:∀ {i:Nat} {l m:List Nat},(h:i<l.length)->(h2:i<m.length)->∀ s,zou (s+i) (l.drop i) (m.drop i)=(zvc 17 ((l[i] - (l[i] &&& m[i])) % 65536)).map (16*(s+i)+·)++zou (s+i+1) (l.drop (i+1)) (m.drop (i+1)):=by
  intro i l m h h2 s;rw [ko h,ko h2,zou];rfl
theorem yhi {w:Nat} (x y:BitVec w):x &&& ~~~y=x - (x &&& y):=by
  have h1:(x &&& ~~~y) &&& (x &&& y)=0#w:=by
    apply BitVec.eq_of_getLsbD_eq;intro i hi;simp only [BitVec.getLsbD_and,BitVec.getLsbD_not,hi,decide_true,jy,BitVec.getLsbD_zero];cases x.getLsbD i<;>cases y.getLsbD i<;>rfl
  have h2:(x &&& ~~~y) ||| (x &&& y)=x:=by
    apply BitVec.eq_of_getLsbD_eq;intro i hi;simp only [BitVec.getLsbD_or,BitVec.getLsbD_and,BitVec.getLsbD_not,hi,decide_true,jy];cases x.getLsbD i<;>cases y.getLsbD i<;>rfl
  have h3:=BitVec.add_eq_or_of_and_eq_zero _ _ h1;rw [h2] at h3;exact BitVec.eq_sub_iff_add_eq.2 h3
theorem zo2 (w:Nat) {a b:Nat} (ha:a<2 ^ w) (hb:b<2 ^ w):a &&& (2 ^ w - 1 - b)=a - (a &&& b):=by
  have h:=congrArg BitVec.toNat (yhi (BitVec.ofNat w a) (BitVec.ofNat w b));rw [oh,BitVec.toNat_not,po,po,ni ha,ni hb,BitVec.toNat_sub_of_le,oh,po,po,ni ha,ni hb] at h
  . exact h
  . rw [BitVec.le_def,oh];exact Nat.and_le_left
theorem zyf {a b:Nat} (ha:a<9223372036854775808) (hb:b<9223372036854775808):bits .andNot .i64 (a:Int) (b:Int)=((a - (a &&& b):Nat):Int):=by
  have h:=zo2 64 (a:=a) (b:=b) (by omega) (by omega);show fi.wrap ((i8 64 (a:Int) &&& ~~~i8 64 (b:Int)).toNat:Int)=_;rw [oh,BitVec.toNat_not,ln,ln];rw [show ((a:Int) % ((2 ^ 64:Nat):Int)).toNat=a by omega,show ((b:Int) % ((2 ^ 64:Nat):Int)).toNat=b by omega,h];have hc:a - (a &&& b)<9223372036854775808:=by omega
  generalize a - (a &&& b)=c at *;simp [IntKind.wrap,IntKind.bits,IntKind.signed];split<;>omega
section
open Go Go.RowKit Go.Shelf
attribute [local go_sem] Oper.semAt_some
theorem ym3 (n:Nat):IntKind.u16.wrap (n:Int)=((n % 65536:Nat):Int):=by
  rw [IntKind.wrap_u16];omega
theorem yew {w k:Nat} (hw:w<65536) (h0:w≠0) (hk:k=ke w):bits .andNot .u16 (w:Int) (IntKind.u16.wrap (2 ^ k))=((w - 2 ^ k:Nat):Int):=by
  subst hk;have h1:=qd h0;have h2:(2:Int) ^ ke w=((2 ^ ke w:Nat):Int):=by rw [Int.natCast_pow];rfl
  rw [h2,ym3,ni (by omega),u16_andNot_nat _ _ hw (by omega)];rw [show 65535 - 2 ^ ke w=2 ^ 16 - 1 - 2 ^ ke w from rfl,zo2 16 hw (by omega),show w &&& 2 ^ ke w=2 ^ ke w from ?_];apply Nat.eq_of_testBit_eq;intro i;rw [Nat.testBit_and,Nat.testBit_two_pow];by_cases h:ke w=i
  . rw [<- h,Nat.testBit_log2 h0];simp
  . simp [h]
set_option maxRecDepth 100000 in
set_option maxHeartbeats 4000000 in
theorem ycq (caps':Array Value) (k:List Nat) (kd l:Nat) (J:List (Nat×Obj)->Nat->World->Prop) (Jx:World->Prop) (W:World)
    (hN:∀ K j W1,J K j W1->Now zj8 caps' k W1)
    (hY:∀ kd' K j x W1,(zj8.xs k)[j]?=some x->J K j W1->YieldAt me kd' Try.prog l x.toArray W1 fun e W'=>(e=.returned (.bool true)/\J K (j+1) W')\/(e=.returned (.bool false)/\Jx W'))
    (hB:∀ K j W1 W2,J K j W1->Below W1.heap.size W1 W2->J K j W2) (h0:J [] 0 W):CallsIn me kd Try.prog 93 (#[.func (.yield l) #[] #[]]++caps') W fun e W'=>(∃ v,e=.returned v)/\((∃ K,J K (zj8.xs k).length W')\/Jx W'):=by
  obtain ⟨p,q,L,M,rfl,rfl,hL,hM,hp,hq⟩:=z6w (hN [] 0 W h0);obtain ⟨b1,o1,rfl,hLm,hp⟩:=hp;obtain ⟨b2,o2,rfl,hMm,hq⟩:=hq
  have hcells:∀ j W1,J [] j W1->(∀ i,(h:i<L.length)->W1.cell? ⟨b1,o1+i,none⟩=some (.int .i64 (L[i]:Nat)))/\(∀ i,(h:i<M.length)->W1.cell? ⟨b2,o2+i,none⟩=some (.int .i64 (M[i]:Nat))):=by
    intro j W1 hj;obtain ⟨p,q,L',M',e1,e2,hL',hM',hp',hq'⟩:=z6w (hN [] j W1 hj);obtain ⟨rfl,rfl⟩:=List.append_inj e2 (by rw [hL,hL']);obtain ⟨b1',o1',rfl,_,hp'⟩:=hp';obtain ⟨b2',o2',rfl,_,hq'⟩:=hq';simp only [Array.mk.injEq,ox,Value.pointer.injEq,fe,Addr.mk.injEq,and_true] at e1;obtain ⟨⟨rfl,rfl⟩,rfl,rfl⟩:=e1;exact ⟨hp',hq'⟩
  show CallsIn me kd Try.prog 93 #[.func (.yield l) #[] #[],.pointer (some ⟨b1,o1,none⟩),.pointer (some ⟨b2,o2,none⟩)] W _;obtain ⟨X,hX⟩:∃ X,X=zj8.xs (L++M):=⟨_,rfl⟩
  have HX:X=(zou 0 L M).map fun n=>[.int .i64 (.ofNat n)]:=by
    rw [hX];show (zou 0 ((L++M).take 10) ((L++M).drop 10)).map _=_;rw [jx (by omega),ij (by omega),qj (by omega),iw (by omega),gg]
  rw [<- hX] at hY ⊢;refine callsIn_of_wp Try.func93 rfl trivial ?_ rfl;simp only [Try.ntmps93,List.size_toArray,gh,je,fw,iz,Array.replicate_succ,Array.replicate_zero,List.push_toArray,List.append_toArray,gg,gq]
  gi_wp2
  gi_loopw [7] (fun v wr=>∃ i j:Nat,j<=X.length/\i<=10/\v=.int .i64 i/\J [] j wr/\X.drop j=(zou i (L.drop i) (M.drop i)).map fun n=>[.int .i64 (.ofNat n)])
    (fun v _=>10 - (intOf v).toNat)
  case atStart=>exact ⟨0,0,ir _,ir _,rfl,h0,by rw [gp,gp,gp];exact HX⟩
  case round =>
    obtain ⟨i,j,hjX,hi,rfl,hJ,hd⟩:=hrel;by_cases hlt:i<10
    . obtain ⟨c1,c2⟩:=hcells j _ hJ;have h1:=c1 i (by omega);have h2:=c2 i (by omega);have a1:=hLm i (by omega);have a2:=hMm i (by omega);have hod:=z9m (i:=i) (l:=L) (m:=M) (by omega) (by omega) 0;rw [i5] at hod;have han:=zyf a1 a2;have hle:L[i] - (L[i] &&& M[i])<9223372036854775808:=by omega
      gi_wp2
      gi_region
      rw [ym3]
      gi_wp2
      have hJ':=hB [] j wr wr.drew hJ ((Below.refl wr.heap.size wr).drew);clear hJ hcells c1 c2 h1 h2;obtain ⟨w0,hw0⟩:∃ w0,w0=(L[i] - (L[i] &&& M[i])) % 65536:=⟨_,rfl⟩;rw [<- hw0] at hod ⊢;have hw1:w0<65536:=by omega
      rw [hod] at hd;clear hod han hle hw0 a1 a2;obtain ⟨R,hR⟩:∃ R,R=zou (i+1) (L.drop (i+1)) (M.drop (i+1)):=⟨_,rfl⟩;rw [<- hR] at hd
      gi_loopw [5] (fun v wr=>∃ w f j:Nat,j<=X.length/\v=.int .u16 w/\w<2 ^ f/\f<=16/\J [] j wr/\X.drop j=((zvc (f+1) w).map (fun x=>16*i+x)++R).map fun n=>[.int .i64 (.ofNat n)])
        (fun v _=>(intOf v).toNat)
      case atStart=>exact ⟨w0,16,j,hjX,rfl,hw1,fp _,hJ',hd⟩
      case round =>
        obtain ⟨w,f,j,hjX,rfl,hw,hf,hJ,hd⟩:=hrel;have hw2:w<65536:=Nat.lt_of_lt_of_le hw (lz (by decide) hf);by_cases h0:w=0
        . subst h0;rw [z99,pd,gg,hR] at hd
          gi_wp2
          go_roundw
          case rel=>exact ⟨i+1,j,hjX,by omega,by go_num,hJ,hd⟩
          case measure=>simp [intOf];omega
        . obtain ⟨q1,q2,q3⟩:=yal h0 hw;obtain ⟨z,hz⟩:∃ z,z=15 - ke w:=⟨_,rfl⟩;have hz15:z<=15:=by omega
          have hlg:ke w<=15:=by
            have:=(Nat.log2_lt h0).2 (show w<2 ^ 16 by omega);omega
          obtain ⟨w2,hw2e⟩:∃ w2,w2=w - 2 ^ ke w:=⟨_,rfl⟩;rw [yaa h0,<- hz,<- hw2e,i4,gq,i4] at hd
          have hjl:j<X.length:=by
            have:=congrArg List.length hd;simp at this;omega
          rw [ko hjl] at hd;obtain ⟨hd1,hd2⟩:=List.cons.inj hd;have hx:X[j]?=some [.int .i64 (.ofNat (16*i+z))]:=by rw [fk hjl,hd1]
          obtain ⟨fn,tmps,assign,body,hy,hR1⟩:=hY (kd - 1) [] j _ wr hx hJ;have hcall:=ye3 w z wr hw2 h0 hz;have hcl:=yew (k:=15 - z) hw2 h0 (by omega);rw [show 15 - z=ke w by omega,<- hw2e,show ke w=15 - z by omega] at hcl
          have hpw:2 ^ (15 - z)<=w/\2 ^ (15 - z)<65536:=by
            have e:15 - z=ke w:=by omega
            rw [e];exact ⟨qd h0,Nat.lt_of_le_of_lt (qd h0) hw2⟩
          rw [<- hw2e] at q1 q2;clear hz hw2e hlg;rw [show qp (16*i+z)=16*(i:Int)+(z:Int) from by simp] at hy;clear hd
          gi_wp2_with (refine ⟨trivial,fun hq=>absurd hq (by simp [me]),(callsIn_wide.2 hcall).mono ?_⟩;rintro e w' ⟨rfl,rfl⟩)
          refine ⟨fun hq=>absurd hq (by simp [me]),hR1.mono ?_⟩;rintro e W3 (⟨rfl,hJ3⟩|⟨rfl,hJx3⟩)
          . gi_wp2
            go_roundw
            case rel =>
              exact ⟨w2,f - 1,j+1,by omega,rfl,q1,by omega,hJ3,by rw [hd2,Nat.sub_add_cancel q3]⟩
            case measure =>
              show (w2:Int).toNat<(w:Int).toNat
              omega
          . gi_wp2
            refine bodyPost_ret (results_none rfl _ _ _) rfl ?_;exact ⟨⟨_,rfl⟩,.inr hJx3⟩
    . obtain rfl:i=10:=by omega
      gi_wp2
      go_end0
      rw [iw (show L.length<=10 by omega)] at hd
      have hjX2:X.length<=j:=by
        have:=congrArg List.length hd;simp [zou] at this;omega
      obtain rfl:j=X.length:=Nat.le_antisymm hjX hjX2;exact ⟨⟨_,rfl⟩,.inl ⟨_,hJ⟩⟩
theorem ylq:ItOk Try.prog 93 zj8 where
  can:=fun caps s k s' h _=>ygc h
  plain:=fun k x hx σ=>by
    obtain ⟨n,_,rfl⟩:=jo.1 hx;exact ⟨pt _ _,trivial⟩
  enter:=enters_of Try.func93 (by kernel_rfl) rfl
  runs:=fun caps' k kd l J Jx W h1 h2 _ _ _ h4 h5=>ycq caps' k kd l J Jx W h1 h4 h2 h5
end
theorem zua:∀ {n:Nat} {cs:List Value} {L:List Nat},zkq n cs=some L->L.length=10*n/\∀ i,i<n->zgt 10 (cs.drop (23*i+1))=some (zes L i)
  |0,cs,L,h=>by
    simp only [zkq,fe] at h;subst h;exact ⟨rfl,fun i hi=>absurd hi (nl _)⟩
  |n+1,cs,L,h=>by
    rw [zkq] at h
    cases hl:zgt 10 (cs.drop 1) with
    |none=>rw [hl] at h;cases h
    |some l =>
      cases hr:zkq n (cs.drop 23) with
      |none=>rw [hl,hr] at h;cases h
      |some r =>
        rw [hl,hr] at h;simp only [fe] at h;subst h;obtain ⟨h1,h2⟩:=zua hr;have h3:=(zn2 hl).1;refine ⟨by rw [fx,h1,h3];omega,fun i hi=>?_⟩
        cases i with
        |zero =>
          rw [Nat.mul_zero,i5,hl];unfold zes;rw [Nat.mul_zero,gp,<- h3,List.take_left]
        |succ i =>
          have:=h2 i (by omega);rw [lp] at this;rw [show 23*(i+1)+1=23+(23*i+1) by omega,this];unfold zes;rw [mh,iw (l:=l) (by omega),gg,h3,show 10*(i+1) - 10=10*i by omega]
def yms (W:World) (p:Option Addr) (n:Nat) (L:List Nat):Prop:=0<n->∃ b o,p=some ⟨b,o,none⟩/\∀ i,i<n->(zes L i).length=10/\∀ j,(h:j<(zes L i).length)->W.cell? ⟨b,o+23*i+1+j,none⟩=some (.int .i64 ((zes L i)[j]:Nat))
theorem zwf {s s':CS} {v:Value} {l:List Nat} (h:zre s v=some (l,s')):Can s s'/\s'.obj=s.obj/\s'.n=s.n:=by
  unfold zre at h;split at h
  . cases h;exact ⟨Can.refl _,rfl,rfl⟩
  . split at h
    . rename_i hr;split at h
      . obtain ⟨_,h⟩:=zee h;simp only [fe,fm] at h;obtain ⟨rfl,rfl⟩:=h;refine ⟨znz hr,?_,?_⟩<;>(rw [(zdc hr).2])
      . cases h
    . cases h
  . cases h
theorem z85 {s s':CS} {v v':Value} {k:List Nat} {σ:Sg} {V:Nat->Prop} {W:World} (h:zre s v=some (k,s')) (hv:VR σ v v') (hr:Rel σ V s W) (hV:zcm V s'):∃ n L p c,k=n :: L/\n<1000000000/\v'=.slice p n c/\yms W p n L:=by
  unfold zre at h;split at h
  . rename_i p c;simp only [fe,fm] at h;obtain ⟨rfl,rfl⟩:=h
    cases p with
    |none =>
      obtain ⟨_,_,rfl⟩:=hv.out;exact ⟨0,[],_,_,rfl,by decide,rfl,fun h=>absurd h (Nat.lt_irrefl _)⟩
    |some a =>
      obtain ⟨b,o,z,h1,a',c',rfl,_⟩:=hv.out;exact ⟨0,[],_,_,rfl,by decide,rfl,fun h=>absurd h (Nat.lt_irrefl _)⟩
  . rename_i a n c;split at h
    . rename_i cs s1 hrr;split at h
      . rename_i l hl;obtain ⟨hn,h⟩:=zee h;simp only [fe,fm] at h;obtain ⟨rfl,rfl⟩:=h;obtain ⟨b,o,z,h1,a',c',rfl,k1,k2,k3,k4,_⟩:=hv.out;have hrow:=zpm hrr hr hV h1;have ha:=k4 (by omega);subst ha;refine ⟨n+1,l,_,c',rfl,zad.1 hn,rfl,fun _=>⟨b,o+a.off,rfl,fun i hi=>?_⟩⟩;have h3:=(zua hl).2 i hi;obtain ⟨a1,a2,a3⟩:=zn2 h3;refine ⟨a1,fun j hj=>?_⟩;have:=a3 j hj;rw [lp,lc] at this;obtain ⟨u',q1,q2⟩:=hrow.2.2.2 _ _ this;rw [q2.int] at q1;rw [show o+a.off+23*i+1+j=o+(a.off+(23*i+1)+j) by omega];exact q1
      . cases h
    . cases h
  . cases h
theorem yc7 {caps:List Value} {s s':CS} {k:List Nat} (h:zg5.key caps s=some (k,s')):Can s s'/\s'.obj=s.obj/\s'.n=s.n:=by
  unfold zg5 at h;dsimp only at h;split at h
  . split at h
    . rename_i hr;split at h
      . obtain ⟨c2,o2,n2⟩:=zwf h;have e:=(zdc hr).2;exact ⟨(znz hr).trans c2,by rw [o2,e],by rw [n2,e]⟩
      . cases h
    . cases h
  . cases h
theorem z1x {caps':Array Value} {k:List Nat} {W:World} (h:Now zg5 caps' k W):∃ bt ot n L p c,caps'=#[.pointer (some ⟨bt,ot,none⟩)]/\k=n :: L/\n<1000000000/\W.cell? ⟨bt,ot,none⟩=some (.slice p n c)/\yms W p n L:=by
  obtain ⟨σ,V,s,s1,caps,h1,h2,h3,h4,h5⟩:=h;unfold zg5 at h5;dsimp only at h5;split at h5
  . rename_i a;split at h5
    . rename_i cs s2 hrr;split at h5
      . rename_i v rest hd;obtain ⟨xs⟩:=caps'
        match xs,h1 with
        |[p'],h1 =>
          obtain ⟨v1,_⟩:=h1;obtain ⟨b,o,z,q1,rfl⟩:=v1.ptr;obtain ⟨c2,o2,n2⟩:=zwf h5;have hrow:=zpm hrr h2 (h3.back c2) q1;have e:=(zdc hrr).2
          have hv:cs[a.off]?=some v:=by
            have:=lc (xs:=cs) (i:=a.off) (j:=0);rw [hd] at this;simpa using this.symm
          obtain ⟨u',w1,w2⟩:=hrow.2.2.2 _ _ hv;obtain ⟨n,L,p,c,rfl,k2,rfl,k4⟩:=z85 h5 w2 (h2.state (by rw [e]) (by rw [e])) h3;exact ⟨b,o+a.off,n,L,p,c,rfl,rfl,k2,w1,k4⟩
      . cases h5
    . cases h5
  . cases h5
/-! what the iterator yields, by its place -/
theorem sN_t:∀ {l m:List Nat},l=m->zh0 l m=true
  |[],_,h=>by subst h;rfl
  |a :: l,_,h=>by subst h;rw [zh0,sN_t rfl,Nat.beq_refl];rfl
theorem sN_f {l m:List Nat} (h:l≠m):zh0 l m=false:=by
  cases hb:zh0 l m with
  |false=>rfl
  |true=>exact absurd (ztl hb).symm h
theorem ziy:∀ n,(ziz n).length=n
  |0=>rfl
  |n+1=>by rw [ziz,fx,ziy n];rfl
theorem z2t:∀ {n i:Nat},i<n->(ziz n)[i]?=some (zvu 1 i 0)
  |0,i,h=>absurd h (nl _)
  |n+1,i,h=>by
    rw [ziz];by_cases hi:i<n
    . rw [gi (by rw [ziy];exact hi),z2t hi]
    . have:i=n:=by omega
      subst this;rw [im (by rw [ziy];exact fp _),ziy,Nat.sub_self];rfl
theorem z1i (l:List Nat) (k:Nat):∀ {i j:Nat},i<=j->∃ r,zi5 l k j=zi5 l k i++r
  |i,0,h=>⟨[],by rw [show i=0 by omega];rfl⟩
  |i,j+1,h=>by
    by_cases hi:i=j+1
    . exact ⟨[],by rw [hi,gt]⟩
    . obtain ⟨r,hr⟩:=z1i l k (i:=i) (j:=j) (by omega);exact ⟨_,by rw [zi5,hr,gj]⟩
theorem yfd (l:List Nat):∀ {i j:Nat},i<=j->∃ r,zcw l j=zcw l i++r
  |i,0,h=>⟨[],by rw [show i=0 by omega];rfl⟩
  |i,j+1,h=>by
    by_cases hi:i=j+1
    . exact ⟨[],by rw [hi,gt]⟩
    . obtain ⟨r,hr⟩:=yfd l (i:=i) (j:=j) (by omega);exact ⟨_,by rw [zcw,hr,gj]⟩
noncomputable def posF (n:Nat) (l:List Nat) (k i:Nat):Nat:=n+((zcw l k).length+(zi5 l k i).length)
theorem ylj {n k i:Nat} {l:List Nat} (hk:k<n) (hi:i<k) (he:zes l i=zes l k) (z:Nat) (hz:z<2):(ziz n++zcw l n)[posF n l k i+z]?=some (zvu (2+z) i k):=by
  obtain ⟨r1,h1⟩:=yfd l (i:=k+1) (j:=n) (by omega);obtain ⟨r2,h2⟩:=z1i l k (i:=i+1) (j:=k) (by omega);rw [h1,zcw,h2,zi5,sN_t he,zbe];unfold posF;rw [im (by rw [ziy];omega),ziy,show n+((zcw l k).length+(zi5 l k i).length)+z - n=(zcw l k).length+((zi5 l k i).length+z) by omega];rw [gj,im (by omega),Nat.add_sub_cancel_left,gj,gj,im (by omega),Nat.add_sub_cancel_left]
  match z,hz with
  |0,_=>rfl
  |1,_=>rfl
theorem yf9 {n k i:Nat} {l:List Nat} (he:zes l i=zes l k):posF n l k (i+1)=posF n l k i+2:=by
  unfold posF;rw [zi5,sN_t he,zbe,fx];rfl
theorem yf8 {n k i:Nat} {l:List Nat} (he:zes l i≠zes l k):posF n l k (i+1)=posF n l k i:=by
  unfold posF;rw [zi5,sN_f he,z0y,gt]
theorem ynn {n k:Nat} {l:List Nat}:posF n l (k+1) 0=posF n l k k:=by
  unfold posF;rw [zcw,fx];rfl
theorem ylk {n:Nat} {l:List Nat}:posF n l n 0=(ziz n++zcw l n).length:=by
  unfold posF;rw [fx,ziy];rfl
section
open Go Go.RowKit Go.Shelf
attribute [local go_sem] Oper.semAt_some
def nV (l:List Nat):List Value:=l.map fun x=>.int .i64 (x:Nat)
theorem z4l:∀ {n:Nat} {l:List Nat},l.length=n->zek (gb n (.int .i64)) (nV l)=true
  |0,[],_=>rfl
  |n+1,x :: l,h=>by
    rw [jc,nV,i4,zek];have:=z4l (n:=n) (l:=l) (by simpa using h);rw [nV] at this;rw [this];rfl
  |0,_ :: _,h=>by simp at h
  |_+1,[],h=>by simp at h
theorem ynz:∀ {l m:List Nat},l.length=m.length->eqVs (nV l) (nV m)=decide (l=m)
  |[],[],_=>by simp [nV,eqVs]
  |x :: l,y :: m,h=>by
    have ih:=ynz (l:=l) (m:=m) (by simpa using h);rw [nV,nV] at ih;rw [nV,nV,i4,i4,eqVs,ih];by_cases hx:x=y
    . subst hx;simp [zni]
    . have:zni (.int .i64 (x:Nat)) (.int .i64 (y:Nat))=false:=by simp only [zni];rw [beq_eq_false_iff_ne];omega
      rw [this];simp [hx]
  |[],_ :: _,h=>by simp at h
  |_ :: _,[],h=>by simp at h
theorem yot {P:gn} {t:gm} {sh:List CK} {xs ys:List Value} {r:Bool} (hs:zg2 P 10000 t=some (true,sh)) (hx:zek sh xs=true) (hy:zek sh ys=true) (hr:eqVs xs ys=r) (w:World):(kx 10000 t (.agg xs.toArray) (.agg ys.toArray)).run P w=.ok r w :=
  z2o (by rw [<- hr];exact ykc 10000 hs hx hy) w
theorem yd6 {l m:List Nat} (hl:l.length=10) (hm:m.length=10) {r:Bool} (hr:decide (l=m)=r) (w:World):(kx 10000 43 (.agg (nV l).toArray) (.agg (nV m).toArray)).run Try.prog w=.ok r w :=
  yot (sh:=gb 10 (.int .i64)) (by kernel_rfl) (z4l hl) (z4l hm) ((ynz (by rw [hl,hm])).trans hr) w
theorem yey {W:World} {b o:Nat} {l:List Nat} (hl:l.length=10) (h:∀ j,(hj:j<l.length)->W.cell? ⟨b,o+j,none⟩=some (.int .i64 (l[j]:Nat))):∃ x0 x1 x2 x3 x4 x5 x6 x7 x8 x9:Nat,l=[x0,x1,x2,x3,x4,x5,x6,x7,x8,x9]/\∀ j,(hj:j<10)->W.cell? ⟨b,o+j,none⟩=some (.int .i64 ([x0,x1,x2,x3,x4,x5,x6,x7,x8,x9][j]:Nat)):=by
  match l,hl with
  |[x0,x1,x2,x3,x4,x5,x6,x7,x8,x9],_=>exact ⟨x0,x1,x2,x3,x4,x5,x6,x7,x8,x9,rfl,fun j hj=>h j hj⟩
theorem z1y {σ:Sg} (a b c:Nat):VR σ (.agg #[.int .i64 (.ofNat a),.int .i64 (.ofNat b),.int .i64 (.ofNat c)]) (.agg #[.int .i64 (.ofNat a),.int .i64 (.ofNat b),.int .i64 (.ofNat c)]):=VR.mk ⟨_,rfl,pt _ _,pt _ _,pt _ _,trivial⟩
set_option maxRecDepth 100000 in
set_option maxHeartbeats 4000000 in
theorem z9q (caps':Array Value) (k:List Nat) (kd l:Nat) (J:List (Nat×Obj)->Nat->World->Prop) (Jx:World->Prop) (W:World)
    (hN:∀ K j W1,J K j W1->Now zg5 caps' k W1)
    (hK:∀ K j W1 W2 b o,J K j W1->Below W1.heap.size W1 W2->W1.heap.size<=b->W2.heap[b]?=some o->J ((b,o) :: K) j W2) (hk:∀ K j W1 b o,J K j W1->(b,o)∈K->W1.heap[b]?=some o)
    (hY:∀ kd' K j x W1,(zg5.xs k)[j]?=some x->J K j W1->YieldAt me kd' Try.prog l x.toArray W1 fun e W'=>(e=.returned (.bool true)/\J K (j+1) W')\/(e=.returned (.bool false)/\Jx W'))
    (hB:∀ K j W1 W2,J K j W1->Below W1.heap.size W1 W2->J K j W2) (h0:J [] 0 W):CallsIn me kd Try.prog 66 (#[.func (.yield l) #[] #[]]++caps') W fun e W'=>(∃ v,e=.returned v)/\((∃ K,J K (zg5.xs k).length W')\/Jx W'):=by
  obtain ⟨bt,ot,n,L,p0,c0,rfl,rfl,hn,hc0,ht0⟩:=z1x (hN [] 0 W h0)
  have hcells:∀ K j W1,J K j W1->∃ p c,W1.cell? ⟨bt,ot,none⟩=some (.slice p n c)/\yms W1 p n L:=by
    intro K j W1 hj;obtain ⟨bt',ot',n',L',p,c,e1,e2,_,h3,h4⟩:=z1x (hN K j W1 hj);simp only [Array.mk.injEq,ox,Value.pointer.injEq,fe,Addr.mk.injEq,and_true] at e1 e2;obtain ⟨rfl,rfl⟩:=e1;obtain ⟨rfl,rfl⟩:=e2;exact ⟨p,c,h3,h4⟩
  clear ht0;show CallsIn me kd Try.prog 66 #[.func (.yield l) #[] #[],.pointer (some ⟨bt,ot,none⟩)] W _;have hX:zg5.xs (n :: L)=ziz n++zcw L n:=rfl;rw [hX] at hY ⊢;refine callsIn_of_wp Try.func66 rfl trivial ?_ rfl;simp only [Try.ntmps66,List.size_toArray,gh,je,fw,iz,Array.replicate_succ,Array.replicate_zero,List.push_toArray,List.append_toArray,gg,gq]
  gi_wp2
  gi_loopw [10] (fun v wr=>∃ i:Nat,i<=n/\v=.int .i64 i/\J [] i wr) (fun v _=>n - (intOf v).toNat)
  case atStart=>exact ⟨0,ir _,rfl,h0⟩
  case round =>
    obtain ⟨i,hi,rfl,hJ⟩:=hrel;by_cases hlt:i<n
    . have hx:(ziz n++zcw L n)[i]?=some (zvu 1 i 0):=by rw [gi (by rw [ziy];exact hlt),z2t hlt]
      obtain ⟨fn,tmps,assign,body,hy,hR1⟩:=hY (kd - 1) [] i _ wr hx hJ;unfold zvu at hy;rw [show qp 1=(1:Int) from rfl,show qp i=(i:Int) from rfl,show qp 0=(0:Int) from rfl] at hy
      gi_wp2
      refine ⟨fun hq=>absurd hq (by simp [me]),hR1.mono ?_⟩;rintro e W3 (⟨rfl,hJ3⟩|⟨rfl,hJx3⟩)
      . gi_wp2
        go_roundw
        case rel=>exact ⟨i+1,by omega,by go_num,hJ3⟩
        case measure=>simp [intOf];omega
      . gi_wp2
        refine bodyPost_ret (results_none rfl _ _ _) rfl ?_;exact ⟨⟨_,rfl⟩,.inr hJx3⟩
    . obtain rfl:i=n:=by omega
      obtain ⟨p,c,hc,-⟩:=hcells [] _ wr hJ
      gi_wp2
      clear hlt hi hc
      gi_loopw [21] (fun v wr=>∃ (K:List (Nat×Obj)) (k:Nat),k<=i/\v=.int .i64 k/\J K (posF i L k 0) wr) (fun v _=>i - (intOf v).toNat)
      case atStart=>exact ⟨[],0,ir _,rfl,hJ⟩
      case round =>
        obtain ⟨K,k,hk1,rfl,hJ⟩:=hrel;by_cases hlt:k<i
        . gi_wp2
          gi_loopw [25] (fun v wr=>∃ (K:List (Nat×Obj)) (m:Nat),m<=k/\v=.int .i64 m/\J K (posF i L k m) wr) (fun v _=>k - (intOf v).toNat)
          case atStart=>exact ⟨K,0,ir _,rfl,hJ⟩
          case round =>
            obtain ⟨K,m,hm1,rfl,hJ⟩:=hrel;by_cases hmk:m<k
            . obtain ⟨p,c,hc,ht⟩:=hcells K _ wr hJ;obtain ⟨b,o,rfl,ht2⟩:=ht (by omega);obtain ⟨e1,c1⟩:=ht2 m (by omega);obtain ⟨e2,c2⟩:=ht2 k (by omega);obtain ⟨x0,x1,x2,x3,x4,x5,x6,x7,x8,x9,hx,d1⟩:=yey (o:=o+m*23+1) e1 (fun j hj=>by rw [show o+m*23+1+j=o+23*m+1+j by omega];exact c1 j hj);obtain ⟨y0,y1,y2,y3,y4,y5,y6,y7,y8,y9,hy,d2⟩:=yey (o:=o+k*23+1) e2 (fun j hj=>by rw [show o+k*23+1+j=o+23*k+1+j by omega];exact c2 j hj);have d3:=d1 0 (by decide);have d4:=d2 0 (by decide);simp only [jq,List.getElem_cons_zero] at d3 d4;clear c1 c2 ht2 ht;by_cases he:zes L m=zes L k
              . have q:=fun w=>yd6 e1 e2 (zAa he) w;rw [hx,hy] at q;simp only [nV,i4,pd] at q;clear e1 e2 hx hy
                gi_wp2
                gi_region
                gi_wp2
                have hb:Below wr.heap.size wr (wr.alloc (Obj.cells #[jh fi 2,jh fi 3] 3)).drew:=((Below.refl wr.heap.size wr).alloc (fp _) _).drew;have hJ2:=hK K _ wr _ wr.heap.size _ hJ hb (fp _) (World.alloc_heap_new wr _);have hx:∀ z,z<2->(ziz i++zcw L i)[posF i L k m+z]?=some (zvu (2+z) m k):=fun z hz=>ylj hlt hmk he z hz;obtain ⟨K2,hK2⟩:∃ K2,K2=(wr.heap.size,Obj.cells #[jh fi 2,jh fi 3] 3) :: K:=⟨_,rfl⟩;have hin:(wr.heap.size,Obj.cells #[jh fi 2,jh fi 3] 3)∈K2:=by rw [hK2];exact .head _
                rw [<- hK2] at hJ2;obtain ⟨B,hB0⟩:∃ B,B=wr.heap.size:=⟨_,rfl⟩;rw [<- hB0] at hin ⊢;clear hK2 hJ hb d1 d2 d3 d4 q hc hcells hK hB0
                gi_loopw [43] (fun v wr=>∃ (z:Nat),z<=2/\v=.int .i64 z/\J K2 (posF i L k m+z) wr) (fun v _=>2 - (intOf v).toNat)
                case atStart=>exact ⟨0,by decide,rfl,hJ2⟩
                case round =>
                  obtain ⟨z,hz,rfl,hJ⟩:=hrel;by_cases hz2:z<2
                  . have hrow:=hk _ _ _ _ _ hJ hin
                    have hcell:wr.cell? ⟨B,z,none⟩=some (.int .i64 ((2+z:Nat))):=by
                      match z,hz2 with
                      |0,_=>simp [rq,hrow]
                      |1,_=>simp [rq,hrow]
                    obtain ⟨fn,tmps,assign,body,hy,hR1⟩:=hY (kd - 1) K2 _ _ wr (hx z hz2) hJ;unfold zvu at hy;rw [show qp (2+z)=2+(z:Int) from by simp,show qp m=(m:Int) from rfl,show qp k=(k:Int) from rfl] at hy
                    gi_wp2
                    refine ⟨fun hq=>absurd hq (by simp [me]),hR1.mono ?_⟩;rintro e W3 (⟨rfl,hJ3⟩|⟨rfl,hJx3⟩)
                    . gi_wp2
                      go_roundw
                      case rel=>exact ⟨z+1,by omega,by go_num,hJ3⟩
                      case measure=>simp [intOf];omega
                    . gi_wp2
                      refine bodyPost_ret (results_none rfl _ _ _) rfl ?_;exact ⟨⟨_,rfl⟩,.inr hJx3⟩
                  . obtain rfl:z=2:=by omega
                    gi_wp2
                    exact ⟨⟨K2,m+1,by omega,by go_num,by rw [yf9 he];exact hJ⟩,by simp [intOf];omega⟩
              . have q:=fun w=>yd6 e1 e2 (zAb he) w;rw [hx,hy] at q;simp only [nV,i4,pd] at q;clear e1 e2 hx hy
                gi_wp2
                gi_region
                gi_wp2
                go_roundw
                case rel=>exact ⟨K,m+1,by omega,by go_num,by rw [yf8 he];exact hB _ _ wr wr.drew hJ ((Below.refl wr.heap.size wr).drew)⟩
                case measure=>simp [intOf];omega
            . obtain rfl:m=k:=by omega
              gi_wp2
              go_roundw
              case rel=>exact ⟨K,m+1,by omega,by go_num,by rw [ynn];exact hJ⟩
              case measure=>simp [intOf];omega
        . obtain rfl:k=i:=by omega
          gi_wp2
          go_end0
          rw [ylk] at hJ;exact ⟨⟨_,rfl⟩,.inl ⟨_,hJ⟩⟩
theorem ygo:ItOk Try.prog 66 zg5 where
  can:=fun caps s k s' h _=>yc7 h
  plain:=fun k x hx σ=>by
    cases k with
    |nil=>simp [zg5] at hx
    |cons n l =>
      have h1:∀ n x,x∈ziz n->RL (VR σ) x x:=by
        intro n
        induction n with
        |zero=>intro x hx;simp [ziz] at hx
        |succ n ih =>
          intro x hx;rw [ziz,io] at hx;rcases hx with hx|hx
          . exact ih x hx
          . rw [gu] at hx;subst hx;exact ⟨z1y _ _ _,trivial⟩
      have h2:∀ k i x,x∈zi5 l k i->RL (VR σ) x x:=by
        intro k i
        induction i with
        |zero=>intro x hx;simp [zi5] at hx
        |succ i ih =>
          intro x hx;rw [zi5,io] at hx;rcases hx with hx|hx
          . exact ih x hx
          . rw [zcl] at hx;split at hx
            . simp only [List.mem_cons,List.not_mem_nil,or_false] at hx;rcases hx with rfl|rfl<;>exact ⟨z1y _ _ _,trivial⟩
            . simp at hx
      have h3:∀ k x,x∈zcw l k->RL (VR σ) x x:=by
        intro k
        induction k with
        |zero=>intro x hx;simp [zcw] at hx
        |succ k ih =>
          intro x hx;rw [zcw,io] at hx;rcases hx with hx|hx
          . exact ih x hx
          . exact h2 k k x hx
      rcases io.1 hx with hx|hx
      . exact h1 n x hx
      . exact h3 n x hx
  enter:=enters_of Try.func66 (by kernel_rfl) rfl
  runs:=fun caps' k kd l J Jx W h1 h2 _ h4 h5 h6 h7=>z9q caps' k kd l J Jx W h1 h4 h5 h6 h2 h7
end
end Go.Proofs.Ytkfnjbfnkpameaa
